/- cmp.Compare, slices.Compare at numbers; the order of dues by their parties -/
import Derived.Test.YtiidekolohphnaaNum
namespace Go.Proofs.Ytiidekolohphnaa
open Go.RowKit

def cmpI (x y : Int) : Int := if x < y then -1 else if y < x then 1 else 0
theorem isNaN_any (x : Int) (w : World) : Calls Try.prog 155 #[.int .i64 x] w fun e w' => e = .returned (.bool false) ∧ w = w' := by
  go_enter Try.func155, Try.ntmps155
  go_wp2_with fail
  go_ret
  exact ⟨rfl, rfl⟩
theorem cmpI_any (x y : Int) (w : World) : Calls Try.prog 119 #[.int .i64 x, .int .i64 y] w fun e w' => e = .returned (.int .i64 (cmpI x y)) ∧ w = w' := by
  go_enter Try.func119, Try.ntmps119
  go_wp2_with (go_at_call 155; refine (isNaN_any _ _).mono ?_; rintro e w' ⟨rfl, rfl⟩)
  all_goals (go_ret; exact ⟨ret_int (by go_light; grind [cmpI]), rfl⟩)

def cmpL : List Int → List Int → Int
  | x :: a, y :: b => if cmpI x y = 0 then cmpL a b else cmpI x y
  | _, _ => 0
theorem cmpL_step {a b : List Int} {k : Nat} (h : k < a.length) (h' : k < b.length) : cmpL (a.drop k) (b.drop k) = if cmpI a[k] b[k] = 0 then cmpL (a.drop (k + 1)) (b.drop (k + 1)) else cmpI a[k] b[k] := by
  rw [List.drop_eq_getElem_cons h, List.drop_eq_getElem_cons h', cmpL]
theorem cmpL_end {a b : List Int} {k : Nat} (h : ¬ k < a.length) : cmpL (a.drop k) (b.drop k) = 0 := by
  rw [List.drop_eq_nil_of_le (by omega)]; cases b.drop k <;> rfl

set_option maxHeartbeats 400000 in
theorem slCompare_any (ao bo : Option Addr) (l m : List Int) (cap cap' : Nat) (w : World) (hs : SlI w ao l) (hs' : SlI w bo m) (hm : l.length ≤ maxLen) (hlen : l.length = m.length) :
    Calls Try.prog 91 #[.slice ao l.length cap, .slice bo m.length cap'] w fun e w' => e = .returned (.int .i64 (cmpL l m)) ∧ w = w' := by
  unfold maxLen at hm
  have hm' : l.length ≤ m.length := by omega
  have hm'' : m.length ≤ l.length := by omega
  clear hlen
  go_enter Try.func91, Try.ntmps91
  go_wp2_with fail
  go_loopw [5, 6, 7, 8, 11] (fun t5 t6 t7 t8 i wr => ∃ k : Nat, k ≤ l.length ∧ i = .int .i64 k ∧ w = wr ∧ Hid (cmpL l m = cmpL (l.drop k) (m.drop k))) (fun _ _ _ _ i _ => l.length - (intOf i).toNat)
  case atStart => exact ⟨0, Nat.zero_le _, rfl, rfl, rfl⟩
  case round =>
    obtain ⟨k, hk, rfl, rfl, hE⟩ := hrel
    by_cases hlt : k < l.length
    · have hlt' : k < m.length := by omega
      have hst := Lib.hid (hE.out.trans (cmpL_step hlt hlt'))
      obtain ⟨b, off, rfl, hc⟩ := hs.at hlt
      obtain ⟨b', off', rfl, hc'⟩ := hs'.at hlt'
      have c0 := hc _ (Below.refl _ _)
      have c0' := hc' _ (Below.refl _ _)
      clear hc hc' hE
      go_wp2_with (go_at_call 119; refine (cmpI_any _ _ _).mono ?_; rintro e w' ⟨rfl, rfl⟩)
      all_goals first
        | (go_ret; exact ⟨ret_int (by go_light; have := hst.out; grind), by trivial⟩)
        | (go_roundw
           case rel => exact ⟨k + 1, by omega, by go_num, by trivial, by go_light; have := hst.out; show _ = _; grind⟩
           case measure => simp [intOf]; omega)
    · have hst := Lib.hid (hE.out.trans (cmpL_end hlt))
      clear hE
      go_wp2_with fail
      all_goals (go_ret; exact ⟨ret_int hst.out.symm, by trivial⟩)
end Go.Proofs.Ytiidekolohphnaa
