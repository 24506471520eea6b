/- The map's keys: a pair of parties -/
import Derived.Test.YtiidekolohphnaaBase
import Derived.Maps.OwnRows
import Derived.DeepKeys4
namespace Go.Proofs.Ytiidekolohphnaa
open Go.RowKit Go.Maps

theorem pairU : Try.prog.underlying 109 = some (.array 2 3) := by kernel_rfl
theorem pairC : Try.prog.cellsOf 109 = 2 := by kernel_rfl
theorem pairC3 : Try.prog.cellsOf 3 = 1 := by kernel_rfl
theorem pairK : Try.prog.keyType 109 = true := by kernel_rfl
theorem pairS : ∃ n, Try.prog.types.size + 1 = n + 2 := ⟨Try.prog.types.size - 1, by kernel_rfl⟩
theorem intU : Try.prog.underlying 3 = some (.int .i64) := by kernel_rfl
theorem pairLaw : Keyed Try.prog 109 := Keyed.of_law (deep_law_laid (P := Try.prog) (by kernel_rfl) (m := 2) (by omega) (of_decide_eq_true (by kernel_rfl)) (by kernel_rfl) (by rw [pairU]))
theorem mapU : Try.prog.underlying 107 = some (.map 109 22) := by kernel_rfl
theorem pairZero (w : World) : (zeroValue 22).run Try.prog w = .ok (.slice none 0 0) w := by kernel_rfl

def pairV (a b : Int) : Value := .agg #[.int .i64 a, .int .i64 b]
def in64 (a : Int) : Prop := -9223372036854775808 ≤ a ∧ a ≤ 9223372036854775807
theorem pairKey (a b : Int) (ha : in64 a) (hb : in64 b) : ∃ l, keyOf Try.prog 109 (pairV a b) = some l := by
  unfold keyOf pairV
  obtain ⟨n, hn⟩ := pairS
  have wa : (Lit.int .i64 a).wf = true := by simp [Lit.wf]; exact ha
  have wb : (Lit.int .i64 b).wf = true := by simp [Lit.wf]; exact hb
  rw [hn]
  simp only [pairU, pairK, Value.formed, pairC, Value.cells]
  unfold Program.keyLits
  simp only [pairU, pairC, pairC3]
  simp [List.range_succ, Program.keyLits, wa, wb]
theorem two_of {α : Type} : ∀ {l : List α}, l.length = 2 → ∃ x y, l = [x, y]
  | [x, y], _ => ⟨x, y, rfl⟩
theorem intLits {n : Nat} {x : Value} {L : List Lit} (h : Try.prog.keyLits (n + 1) 3 [x] = some L) : ∃ a : Int, x = .int .i64 a ∧ in64 a := by
  unfold Program.keyLits at h
  simp only [intU] at h
  cases x <;> simp at h
  obtain ⟨⟨rfl, hw⟩, _⟩ := h
  simp [Lit.wf] at hw
  exact ⟨_, rfl, hw⟩
theorem pairInv {v : Value} {l : Lit} (h : keyOf Try.prog 109 v = some l) : ∃ a b : Int, v = pairV a b ∧ in64 a ∧ in64 b := by
  obtain ⟨xs, L, rfl, hk, _⟩ := keyOf_top (by rw [pairU]) h
  obtain ⟨n, hn⟩ := pairS
  rw [hn] at hk
  unfold Program.keyLits at hk
  simp only [pairU, pairC, pairC3] at hk
  split at hk
  · rename_i hl
    obtain ⟨xs⟩ := xs
    simp at hl
    obtain ⟨x, y, rfl⟩ := two_of hl
    simp only [List.range_succ, List.range_zero, List.nil_append, List.cons_append, List.mapM_cons, List.mapM_nil] at hk
    cases h1 : Try.prog.keyLits (n + 1) 3 [x] with
    | none => simp [h1] at hk
    | some L1 =>
      cases h2 : Try.prog.keyLits (n + 1) 3 [y] with
      | none => simp [h1, h2] at hk
      | some L2 =>
        obtain ⟨a, rfl, ha⟩ := intLits h1
        obtain ⟨b, rfl, hb⟩ := intLits h2
        exact ⟨a, b, rfl, ha, hb⟩
  · cases hk
end Go.Proofs.Ytiidekolohphnaa
