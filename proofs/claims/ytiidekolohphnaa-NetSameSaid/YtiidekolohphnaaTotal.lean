/- net.total, money.Checks -/
import Derived.Test.YtiidekolohphnaaNum
namespace Go.Proofs.Ytiidekolohphnaa
open Go.RowKit

def totL : List Int → Int → Int → Int × Int
  | [], s, t => (s, t)
  | n :: l, s, t => totL l ((s + n).tmod 1152921504606846976) (t + (s + n).tdiv 1152921504606846976)
theorem totL_sum : ∀ (l : List Int) (s t : Int), (totL l s t).1 + (totL l s t).2 * 1152921504606846976 = s + t * 1152921504606846976 + l.sum
  | [], s, t => by simp [totL]
  | n :: l, s, t => by
    rw [totL, totL_sum l, List.sum_cons]
    have := Int.tmod_add_mul_tdiv (s + n) 1152921504606846976
    omega
theorem tmod_bd (a : Int) : -1152921504606846976 < a.tmod 1152921504606846976 ∧ a.tmod 1152921504606846976 < 1152921504606846976 := by
  constructor
  · exact Int.lt_tmod_of_pos a (by omega)
  · exact Int.tmod_lt_of_pos a (by omega)
theorem totL_bd : ∀ (l : List Int) (s t : Int), -1152921504606846976 < s ∧ s < 1152921504606846976 → -1152921504606846976 < (totL l s t).1 ∧ (totL l s t).1 < 1152921504606846976
  | [], s, t, h => h
  | n :: l, s, t, _ => by rw [totL]; exact totL_bd l _ _ (tmod_bd _)
theorem tdiv_bd (a : Int) (h : -2305843009213693952 ≤ a ∧ a ≤ 2305843009213693952) : -2 ≤ a.tdiv 1152921504606846976 ∧ a.tdiv 1152921504606846976 ≤ 2 := by
  have h1 := Int.tmod_add_mul_tdiv a 1152921504606846976
  have h2 := tmod_bd a
  omega
def totBig (t : Int) : Bool := decide (t < -2) || decide (2 < t)
def totV (l : List Int) : Int := if totBig (totL l 0 0).2 then 0 else (totL l 0 0).1 + (totL l 0 0).2 * 1152921504606846976
def totB (l : List Int) : Bool := if totBig (totL l 0 0).2 then false else amtOk ((totL l 0 0).1 + (totL l 0 0).2 * 1152921504606846976)
theorem totB_eq (l : List Int) : totB l = amtOk l.sum := by
  have h1 := totL_sum l 0 0
  have h2 := totL_bd l 0 0 (by omega)
  unfold totB
  split
  · rename_i h
    simp [totBig] at h
    symm
    simp [amtOk, btw]
    omega
  · rw [h1]; simp
theorem totV_eq (l : List Int) (h : amtOk l.sum = true) : totV l = l.sum := by
  have h1 := totL_sum l 0 0
  rw [← totB_eq] at h
  unfold totB at h
  unfold totV
  split at h
  · cases h
  · rename_i h'; rw [if_neg h', h1]; simp

theorem totL_step {l : List Int} {k : Nat} {s t : Int} (h : k < l.length) : totL (l.drop k) s t = totL (l.drop (k + 1)) ((s + l[k]).tmod 1152921504606846976) (t + (s + l[k]).tdiv 1152921504606846976) := by
  rw [List.drop_eq_getElem_cons h]; rfl
theorem totL_end {l : List Int} {k : Nat} {s t : Int} (h : ¬ k < l.length) : totL (l.drop k) s t = (s, t) := by
  rw [List.drop_eq_nil_of_le (by omega)]; rfl

set_option maxHeartbeats 400000 in
theorem total_any (ao : Option Addr) (l : List Int) (cap : Nat) (w : World) (hs : SlI w ao l) (hm : l.length ≤ 1000) (hok : ∀ n ∈ l, amtOk n = true) :
    Calls Try.prog 88 #[.slice ao l.length cap] w fun e w' => e = .returned (.tuple #[.int .i64 (totV l), .bool (totB l)]) ∧ w = w' := by
  go_enter Try.func88, Try.ntmps88
  go_wp2_with fail
  go_loop [4, 5, 10] (fun s t i => ∃ (k : Nat) (s' t' : Int), k ≤ l.length ∧ i = .int .i64 k ∧ s = .int .i64 s' ∧ t = .int .i64 t' ∧ (-1152921504606846976 < s' ∧ s' < 1152921504606846976) ∧ (-2 * (k : Int) ≤ t' ∧ t' ≤ 2 * k) ∧ Hid (totL l 0 0 = totL (l.drop k) s' t')) (fun _ _ i => l.length - (intOf i).toNat)
  case atStart => exact ⟨0, 0, 0, Nat.zero_le _, rfl, rfl, rfl, by omega, by omega, rfl⟩
  case round =>
    obtain ⟨k, s, t, hk, rfl, rfl, rfl, ⟨hs1, hs2⟩, ⟨ht1, ht2⟩, hE⟩ := hrel
    by_cases hlt : k < l.length
    · have hst := Lib.hid (hE.out.trans (totL_step hlt))
      obtain ⟨b, off, rfl, hc⟩ := hs.at hlt
      have c0 := hc _ (Below.refl _ _)
      have hb := hok _ (List.getElem_mem hlt)
      obtain ⟨b1, b2⟩ : -1152921504606846976 ≤ l[k] ∧ l[k] ≤ 1152921504606846976 := by simpa [amtOk, btw] using hb
      obtain ⟨b3, b4⟩ := tdiv_bd (s + l[k]) (by omega)
      obtain ⟨b5, b6⟩ := tmod_bd (s + l[k])
      clear hc hE hb
      go_wp2_with fail
      go_round
      case rel => exact ⟨k + 1, _, _, by omega, by go_num, rfl, rfl, ⟨b5, b6⟩, by omega, hst.out⟩
      case measure => simp [intOf]; omega
    · have hst := Lib.hid (hE.out.trans (totL_end hlt))
      clear hE
      go_wp2_with (go_at_call 134; refine (mcheck_any _ _).mono ?_; rintro e w' ⟨rfl, rfl⟩)
      all_goals
        go_ret2
        exact ⟨ret_ib (by go_light; have := hst.out; grind [totV, totBig]) (by go_light; have := hst.out; grind [totB, totBig, amtErr]), rfl⟩

def amtsErr (l : List Int) : Int := if l.all amtOk then 0 else 3
set_option maxHeartbeats 400000 in
theorem moneyChecks_any (ao : Option Addr) (l : List Int) (cap : Nat) (w : World) (hs : SlI w ao l) (hm : l.length ≤ maxLen) :
    Calls Try.prog 92 #[.slice ao l.length cap] w fun e w' => e = .returned (.int .i64 (amtsErr l)) ∧ w = w' := by
  unfold maxLen at hm
  go_enter Try.func92, Try.ntmps92
  go_wp2_with fail
  go_loop [8] (fun i => ∃ k : Nat, k ≤ l.length ∧ i = .int .i64 k ∧ Hid (amtsErr l = amtsErr (l.drop k))) (fun i => l.length - (intOf i).toNat)
  case atStart => exact ⟨0, Nat.zero_le _, rfl, rfl⟩
  case round =>
    obtain ⟨k, hk, rfl, hE⟩ := hrel
    by_cases hlt : k < l.length
    · have hst : Hid (amtsErr l = if amtErr l[k] = 0 then amtsErr (l.drop (k + 1)) else amtErr l[k]) := by
        show _ = _
        rw [hE.out, List.drop_eq_getElem_cons hlt]; grind [amtsErr, amtErr]
      obtain ⟨b, off, rfl, hc⟩ := hs.at hlt
      have c0 := hc _ (Below.refl _ _)
      clear hc hE
      go_wp2_with (go_at_call 134; refine (mcheck_any _ _).mono ?_; rintro e w' ⟨rfl, rfl⟩)
      all_goals first
        | (go_ret; exact ⟨ret_int (by go_light; have := hst.out; grind), rfl⟩)
        | (go_round
           case rel => exact ⟨k + 1, by omega, by go_num, by go_light; have := hst.out; show _ = _; grind⟩
           case measure => simp [intOf]; omega)
    · have hst : Hid (amtsErr l = 0) := by show _ = _; rw [hE.out, List.drop_eq_nil_of_le (by omega)]; rfl
      clear hE
      go_wp2_with fail
      go_ret
      exact ⟨ret_int hst.out.symm, rfl⟩
end Go.Proofs.Ytiidekolohphnaa
