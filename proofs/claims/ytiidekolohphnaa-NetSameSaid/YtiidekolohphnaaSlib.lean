/- slices.Clone, Min, Max, Index at []int. -/
import Derived.Test.YtiidekolohphnaaSettleP
namespace Go.Proofs.Ytiidekolohphnaa
open Go.RowKit

set_option maxHeartbeats 400000 in
theorem slMin_any (ao : Option Addr) (l : List Int) (cap : Nat) (w : World) (hs : SlI w ao l) (hm : l.length ≤ maxLen) (h1 : 1 ≤ l.length) :
    Calls Try.prog 94 #[.slice ao l.length cap] w fun e w' => e = .returned (.int .i64 (minL l)) ∧ w = w' := by
  unfold maxLen at hm
  have h1' : (1 : Int) ≤ l.length := by omega
  obtain ⟨b, off, rfl, hc0⟩ := hs.at (k := 0) (by omega)
  have c00 := hc0 _ (Below.refl _ _)
  rw [Nat.add_zero] at c00
  clear hc0
  go_enter Try.func94, Try.ntmps94
  go_wp2_with fail
  go_loop [3, 4] (fun s i => ∃ (k : Nat) (s' : Int), 1 ≤ k ∧ k ≤ l.length ∧ i = .int .i64 k ∧ s = .int .i64 s' ∧ Hid (minL l = (l.drop k).foldl min s')) (fun _ i => l.length - (intOf i).toNat)
  case atStart =>
    refine ⟨1, _, by omega, h1, rfl, rfl, ?_⟩
    cases l with
    | nil => simp at h1
    | cons x l => rfl
  case round =>
    obtain ⟨k, s, hk1, hk, rfl, rfl, hE⟩ := hrel
    by_cases hlt : k < l.length
    · have hst : Hid (minL l = (l.drop (k + 1)).foldl min (min s l[k])) := by
        show _ = _
        rw [hE.out, List.drop_eq_getElem_cons hlt, List.foldl_cons]
      obtain ⟨b', off', hb', hc⟩ := hs.at hlt
      cases hb'
      have c0 := hc _ (Below.refl _ _)
      clear hc hE
      go_wp2_with fail
      all_goals
        go_round
        case rel => exact ⟨k + 1, _, by omega, by omega, by go_num, rfl, by show _ = _; rw [hst.out, show min s l[k] = if l[k] < s then l[k] else s by split <;> omega]⟩
        case measure => simp [intOf]; omega
    · have hst : Hid (minL l = s) := by show _ = _; rw [hE.out, List.drop_eq_nil_of_le (by omega)]; rfl
      clear hE
      go_wp2_with fail
      go_ret
      exact ⟨ret_int hst.out.symm, rfl⟩
set_option maxHeartbeats 400000 in
theorem slMax_any (ao : Option Addr) (l : List Int) (cap : Nat) (w : World) (hs : SlI w ao l) (hm : l.length ≤ maxLen) (h1 : 1 ≤ l.length) :
    Calls Try.prog 95 #[.slice ao l.length cap] w fun e w' => e = .returned (.int .i64 (maxL l)) ∧ w = w' := by
  unfold maxLen at hm
  have h1' : (1 : Int) ≤ l.length := by omega
  obtain ⟨b, off, rfl, hc0⟩ := hs.at (k := 0) (by omega)
  have c00 := hc0 _ (Below.refl _ _)
  rw [Nat.add_zero] at c00
  clear hc0
  go_enter Try.func95, Try.ntmps95
  go_wp2_with fail
  go_loop [3, 4] (fun s i => ∃ (k : Nat) (s' : Int), 1 ≤ k ∧ k ≤ l.length ∧ i = .int .i64 k ∧ s = .int .i64 s' ∧ Hid (maxL l = (l.drop k).foldl max s')) (fun _ i => l.length - (intOf i).toNat)
  case atStart =>
    refine ⟨1, _, by omega, h1, rfl, rfl, ?_⟩
    cases l with
    | nil => simp at h1
    | cons x l => rfl
  case round =>
    obtain ⟨k, s, hk1, hk, rfl, rfl, hE⟩ := hrel
    by_cases hlt : k < l.length
    · have hst : Hid (maxL l = (l.drop (k + 1)).foldl max (max s l[k])) := by
        show _ = _
        rw [hE.out, List.drop_eq_getElem_cons hlt, List.foldl_cons]
      obtain ⟨b', off', hb', hc⟩ := hs.at hlt
      cases hb'
      have c0 := hc _ (Below.refl _ _)
      clear hc hE
      go_wp2_with fail
      all_goals
        go_round
        case rel => exact ⟨k + 1, _, by omega, by omega, by go_num, rfl, by show _ = _; rw [hst.out, show max s l[k] = if s < l[k] then l[k] else s by split <;> omega]⟩
        case measure => simp [intOf]; omega
    · have hst : Hid (maxL l = s) := by show _ = _; rw [hE.out, List.drop_eq_nil_of_le (by omega)]; rfl
      clear hE
      go_wp2_with fail
      go_ret
      exact ⟨ret_int hst.out.symm, rfl⟩

set_option maxHeartbeats 400000 in
theorem slIndex_any (ao : Option Addr) (l : List Int) (cap : Nat) (x : Int) (w : World) (hs : SlI w ao l) (hm : l.length ≤ maxLen) (hx : x ∈ l) :
    Calls Try.prog 96 #[.slice ao l.length cap, .int .i64 x] w fun e w' => e = .returned (.int .i64 (l.idxOf x)) ∧ w = w' := by
  unfold maxLen at hm
  have hlt0 := List.idxOf_lt_length_of_mem hx
  have hx := Lib.hid hx
  go_enter Try.func96, Try.ntmps96
  go_wp2_with fail
  go_loop [8] (fun i => ∃ k : Nat, k ≤ l.length ∧ i = .int .i64 k ∧ Hid (l.idxOf x = k + (l.drop k).idxOf x)) (fun i => l.length - (intOf i).toNat)
  case atStart => exact ⟨0, Nat.zero_le _, rfl, by show _ = _; simp⟩
  case round =>
    obtain ⟨k, hk, rfl, hE⟩ := hrel
    have hlt : k < l.length := by have := hE.out; omega
    have hst : Hid (l.idxOf x = if l[k] = x then k else k + 1 + (l.drop (k + 1)).idxOf x) := by
      show _ = _
      rw [hE.out, List.drop_eq_getElem_cons hlt, List.idxOf_cons]
      by_cases e : l[k] = x
      · simp [e]
      · rw [show (l[k] == x) = false by simpa using e, if_neg e]; simp; omega
    obtain ⟨b, off, rfl, hc⟩ := hs.at hlt
    have c0 := hc _ (Below.refl _ _)
    clear hc hE
    by_cases e : l[k] = x
    · have ht : (x == l[k]) = true := by simp [e]
      have hst := Lib.hid (hst.out.trans (if_pos e))
      clear e
      go_wp2_with fail
      go_ret
      exact ⟨ret_int (by rw [hst.out]), rfl⟩
    · have ht : (x == l[k]) = false := by simp; exact fun h => e h.symm
      have hst := Lib.hid (hst.out.trans (if_neg e))
      clear e
      go_wp2_with fail
      go_round
      case rel => exact ⟨k + 1, by omega, by go_num, hst.out⟩
      case measure => simp [intOf]; omega

set_option maxHeartbeats 400000 in
theorem slClone_any (ao : Option Addr) (l : List Int) (cap : Nat) (w : World) (hs : SlI w ao l) (hm : l.length ≤ 1000) (h1 : 1 ≤ l.length) :
    Calls Try.prog 93 #[.slice ao l.length cap] w (RetI l w) := by
  obtain ⟨b, off, rfl, hlt, hc⟩ := hs (by omega)
  clear hc
  have hne := fun w => Lib.run_eql_slice_nil (P := Try.prog) w 22 3 (some ⟨b, off, none⟩) l.length cap 0 0 Try.underlying22
  go_enter Try.func93, Try.ntmps93
  have hs' := hs.below ((Below.refl _ w).alloc (Nat.le_refl _) (.cells #[] 3))
  have ho := Ow.made (enc := encI) (e := 3) (k := 1) w (Nat.le_refl w.heap.size)
  go_wp2_with (at_builtin; refine wpList_appsI rfl (.tmp 5) (.tmp 6) rfl ho hs' rfl rfl h1 (by simp; omega) (by simp) ?_; intro v1 w1 hO1 hg1 hl1)
  go_ret
  exact ⟨v1, rfl, hO1, btv ((Below.refl _ w).alloc (Nat.le_refl _) _) ho hg1⟩
end Go.Proofs.Ytiidekolohphnaa
