/-
  The closed facts of the row of NetNothing: each by itself, so that no one declaration is large.
-/
import Derived.Test.YtiidekolohphnaaRows
import Derived.ProofKit
namespace Go.Proofs.Ytiidekolohphnaa
open Go.ChangeShapes Go.WideShapes Go.ChangeAt Go.RowKit

theorem netNothing_band {a b : Bool} (ha : a = true) (hb : b = true) : (a && b) = true := by rw [ha, hb]; rfl
theorem netNothing_named : Try.prog.funcNamed Rows.netNothingRow.func = some 7 := by kernel_rfl
theorem netNothing_inst : Try.f7.isInstance Try.prog Rows.netNothingRow.origin Rows.netNothingRow.targs := of_decide_eq_true (by kernel_rfl)
theorem netNothing_wrap : Try.f7.isWrapper Try.prog Rows.netNothingRow.wrapper Rows.netNothingRow.mainSum := by
  unfold Func.isWrapper
  first | (rw [if_pos (by decide +kernel)]; kernel_rfl) | (rw [if_neg (by decide +kernel)]; exact ⟨rfl, rfl⟩)
set_option maxHeartbeats 40000000 in
theorem netNothing_closed : joinedFacts Try.prog 7 Try.f7 Rows.netNothingSpec Rows.netNothingRow = true := by
  unfold joinedFacts
  exact (netNothing_band (netNothing_band (netNothing_band (netNothing_band (netNothing_band (netNothing_band (netNothing_band (netNothing_band (netNothing_band (netNothing_band (netNothing_band (netNothing_band (netNothing_band (netNothing_band (netNothing_band (netNothing_band (netNothing_band (netNothing_band (netNothing_band (netNothing_band (netNothing_band (netNothing_band (netNothing_band (netNothing_band (netNothing_band (netNothing_band (netNothing_band (netNothing_band (netNothing_band (netNothing_band (netNothing_band (by as_aux_lemma => kernel_rfl) (by as_aux_lemma => kernel_rfl)) (by as_aux_lemma => kernel_rfl)) (by as_aux_lemma => kernel_rfl)) (by as_aux_lemma => kernel_rfl)) (by as_aux_lemma => kernel_rfl)) (by as_aux_lemma => kernel_rfl)) (by as_aux_lemma => kernel_rfl)) (by as_aux_lemma => kernel_rfl)) (by as_aux_lemma => kernel_rfl)) (by as_aux_lemma => kernel_rfl)) (by as_aux_lemma => kernel_rfl)) (by as_aux_lemma => kernel_rfl)) (by as_aux_lemma => kernel_rfl)) (by as_aux_lemma => kernel_rfl)) (by as_aux_lemma => kernel_rfl)) (by as_aux_lemma => kernel_rfl)) (by as_aux_lemma => kernel_rfl)) (by as_aux_lemma => kernel_rfl)) (by as_aux_lemma => kernel_rfl)) (by as_aux_lemma => kernel_rfl)) (by as_aux_lemma => kernel_rfl)) (by as_aux_lemma => kernel_rfl)) (by as_aux_lemma => kernel_rfl)) (by as_aux_lemma => kernel_rfl)) (by as_aux_lemma => kernel_rfl)) (by as_aux_lemma => kernel_rfl)) (by as_aux_lemma => kernel_rfl)) (by as_aux_lemma => kernel_rfl)) (by as_aux_lemma => kernel_rfl)) (by as_aux_lemma => kernel_rfl)) (by as_aux_lemma => kernel_rfl))
end Go.Proofs.Ytiidekolohphnaa
