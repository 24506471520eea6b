/- SameInts, SameDues -/
import Derived.Test.YtiidekolohphnaaNum
namespace Go.Proofs.Ytiidekolohphnaa
open Go.RowKit

def sameB {α : Type} [DecidableEq α] (a b : List α) : Bool := decide (a = b)
theorem sameB_step {α : Type} [DecidableEq α] {a b : List α} {k : Nat} (h : k < a.length) (h' : k < b.length) : sameB (a.drop k) (b.drop k) = (decide (a[k] = b[k]) && sameB (a.drop (k + 1)) (b.drop (k + 1))) := by
  unfold sameB
  rw [List.drop_eq_getElem_cons h, List.drop_eq_getElem_cons h', ← Bool.decide_and]
  simp only [List.cons.injEq]
theorem sameB_len {α : Type} [DecidableEq α] {a b : List α} (h : a.length ≠ b.length) : sameB a b = false := by
  unfold sameB; simp; intro e; rw [e] at h; exact h rfl
theorem sameB_end {α : Type} [DecidableEq α] {a b : List α} {k : Nat} (h : ¬ k < a.length) (h' : ¬ k < b.length) : sameB (a.drop k) (b.drop k) = true := by
  unfold sameB; rw [List.drop_eq_nil_of_le (by omega), List.drop_eq_nil_of_le (by omega)]; simp

set_option maxHeartbeats 400000 in
theorem sameInts_any (ao bo : Option Addr) (l m : List Int) (cap cap' : Nat) (w : World) (hs : SlI w ao l) (hs' : SlI w bo m) (hm : l.length ≤ maxLen) :
    Calls Try.prog 37 #[.slice ao l.length cap, .slice bo m.length cap'] w fun e w' => e = .returned (.bool (sameB l m)) ∧ Below w.heap.size w w' := by
  unfold maxLen at hm
  go_enter Try.func37, Try.ntmps37
  by_cases hlen : l.length = m.length
  · have hd : ((l.length : Int) != (m.length : Int)) = false := by simp [hlen]
    have hm' : l.length ≤ m.length := by omega
    have hm'' : m.length ≤ l.length := by omega
    clear hlen
    go_wp2_with fail
    go_loopw [5] (fun i wr => ∃ k : Nat, k ≤ l.length ∧ i = .int .i64 k ∧ Below w.heap.size w wr ∧ Hid (sameB l m = sameB (l.drop k) (m.drop k))) (fun i _ => l.length - (intOf i).toNat)
    case atStart => exact ⟨0, Nat.zero_le _, rfl, Below.refl _ _, rfl⟩
    case round =>
      obtain ⟨k, hk, rfl, hB, hE⟩ := hrel
      by_cases hlt : k < l.length
      · have hlt' : k < m.length := by omega
        have hst := Lib.hid (hE.out.trans (sameB_step hlt hlt'))
        obtain ⟨b, off, rfl, hc⟩ := hs.at hlt
        obtain ⟨b', off', rfl, hc'⟩ := hs'.at hlt'
        have c0 := hc _ hB
        have c0' := hc' _ hB
        clear hc hc' hE
        go_wp2_with fail
        go_quiet (fail)
        go_wp2_with fail
        all_goals first
          | (go_ret; exact ⟨ret_bool (by go_light; have := hst.out; grind), (by repeat (first | assumption | exact Below.refl _ _ | apply bal | apply Below.drew | apply bdn | refine btr ?_ (by assumption)))⟩)
          | (go_roundw
             case rel => exact ⟨k + 1, by omega, by go_num, (by repeat (first | assumption | exact Below.refl _ _ | apply bal | apply Below.drew | apply bdn | refine btr ?_ (by assumption))), by go_light; have := hst.out; show _ = _; grind⟩
             case measure => simp [intOf]; omega)
      · have hst := Lib.hid (hE.out.trans (sameB_end hlt (by omega)))
        clear hE
        go_wp2_with fail
        go_ret
        exact ⟨ret_bool hst.out.symm, hB⟩
  · have hd : ((l.length : Int) != (m.length : Int)) = true := by simp; omega
    go_wp2_with fail
    go_ret
    exact ⟨ret_bool (sameB_len hlen).symm, Below.refl _ _⟩

theorem run_neqD (a b : Due) (w : World) : (binOp .neq 49 (.agg #[.int .i64 a.frm, .int .i64 a.to, .int .i64 a.amt]) (.agg #[.int .i64 b.frm, .int .i64 b.to, .int .i64 b.amt])).run Try.prog w = .ok (.bool (!decide (a = b))) w := by
  obtain ⟨a1, a2, a3⟩ := a
  obtain ⟨b1, b2, b3⟩ := b
  simp [go_sem]
  by_cases h1 : a1 = b1 <;> by_cases h2 : a2 = b2 <;> by_cases h3 : a3 = b3 <;> simp [h1, h2, h3]
set_option maxHeartbeats 400000 in
theorem sameDues_any (ao bo : Option Addr) (l m : List Due) (cap cap' : Nat) (w : World) (hs : SlD w ao l) (hs' : SlD w bo m) (hm : l.length ≤ maxLen) :
    Calls Try.prog 27 #[.slice ao l.length cap, .slice bo m.length cap'] w fun e w' => e = .returned (.bool (sameB l m)) ∧ Below w.heap.size w w' := by
  unfold maxLen at hm
  go_enter Try.func27, Try.ntmps27
  by_cases hlen : l.length = m.length
  · have hd : ((l.length : Int) != (m.length : Int)) = false := by simp [hlen]
    have hm' : l.length ≤ m.length := by omega
    have hm'' : m.length ≤ l.length := by omega
    clear hlen
    go_wp2_with fail
    go_loopw [5] (fun i wr => ∃ k : Nat, k ≤ l.length ∧ i = .int .i64 k ∧ Below w.heap.size w wr ∧ Hid (sameB l m = sameB (l.drop k) (m.drop k))) (fun i _ => l.length - (intOf i).toNat)
    case atStart => exact ⟨0, Nat.zero_le _, rfl, Below.refl _ _, rfl⟩
    case round =>
      obtain ⟨k, hk, rfl, hB, hE⟩ := hrel
      by_cases hlt : k < l.length
      · have hlt' : k < m.length := by omega
        have hst := Lib.hid (hE.out.trans (sameB_step hlt hlt'))
        obtain ⟨b, off, rfl, hc⟩ := hs.at hlt
        obtain ⟨b', off', rfl, hc'⟩ := hs'.at hlt'
        obtain ⟨c0, c1, c2⟩ := hc _ hB
        obtain ⟨c0', c1', c2'⟩ := hc' _ hB
        have hnq := run_neqD l[k] m[k]
        clear hc hc' hE
        go_wp2_with fail
        go_quiet (fail)
        go_wp2_with fail
        all_goals first
          | (go_ret; exact ⟨ret_bool (by go_light; have := hst.out; grind), (by repeat (first | assumption | exact Below.refl _ _ | apply bal | apply Below.drew | apply bdn | refine btr ?_ (by assumption)))⟩)
          | (go_roundw
             case rel => exact ⟨k + 1, by omega, by go_num, (by repeat (first | assumption | exact Below.refl _ _ | apply bal | apply Below.drew | apply bdn | refine btr ?_ (by assumption))), by go_light; have := hst.out; show _ = _; grind⟩
             case measure => simp [intOf]; omega)
      · have hst := Lib.hid (hE.out.trans (sameB_end hlt (by omega)))
        clear hE
        go_wp2_with fail
        go_ret
        exact ⟨ret_bool hst.out.symm, hB⟩
  · have hd : ((l.length : Int) != (m.length : Int)) = true := by simp; omega
    go_wp2_with fail
    go_ret
    exact ⟨ret_bool (sameB_len hlen).symm, Below.refl _ _⟩
end Go.Proofs.Ytiidekolohphnaa
