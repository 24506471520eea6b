/-
  The closed facts of the row of NetSame: each by itself, so that no one declaration is large.
-/
import Derived.Test.YtiidekolohphnaaRows
import Derived.ProofKit
namespace Go.Proofs.Ytiidekolohphnaa
open Go.ChangeShapes Go.WideShapes Go.ChangeAt Go.RowKit

theorem netSame_band {a b : Bool} (ha : a = true) (hb : b = true) : (a && b) = true := by rw [ha, hb]; rfl
theorem netSame_named : Try.prog.funcNamed Rows.netSameRow.func = some 10 := by kernel_rfl
theorem netSame_inst : Try.f10.isInstance Try.prog Rows.netSameRow.origin Rows.netSameRow.targs := of_decide_eq_true (by kernel_rfl)
theorem netSame_wrap : Try.f10.isWrapper Try.prog Rows.netSameRow.wrapper Rows.netSameRow.mainSum := by
  unfold Func.isWrapper
  first | (rw [if_pos (by decide +kernel)]; kernel_rfl) | (rw [if_neg (by decide +kernel)]; exact ⟨rfl, rfl⟩)
set_option maxHeartbeats 40000000 in
theorem netSame_closed : joinedFacts Try.prog 10 Try.f10 Rows.netSameSpec Rows.netSameRow = true := by
  unfold joinedFacts
  exact (netSame_band (netSame_band (netSame_band (netSame_band (netSame_band (netSame_band (netSame_band (netSame_band (netSame_band (netSame_band (netSame_band (netSame_band (netSame_band (netSame_band (netSame_band (netSame_band (netSame_band (netSame_band (netSame_band (netSame_band (netSame_band (netSame_band (netSame_band (netSame_band (netSame_band (netSame_band (netSame_band (netSame_band (netSame_band (netSame_band (netSame_band (by as_aux_lemma => kernel_rfl) (by as_aux_lemma => kernel_rfl)) (by as_aux_lemma => kernel_rfl)) (by as_aux_lemma => kernel_rfl)) (by as_aux_lemma => kernel_rfl)) (by as_aux_lemma => kernel_rfl)) (by as_aux_lemma => kernel_rfl)) (by as_aux_lemma => kernel_rfl)) (by as_aux_lemma => kernel_rfl)) (by as_aux_lemma => kernel_rfl)) (by as_aux_lemma => kernel_rfl)) (by as_aux_lemma => kernel_rfl)) (by as_aux_lemma => kernel_rfl)) (by as_aux_lemma => kernel_rfl)) (by as_aux_lemma => kernel_rfl)) (by as_aux_lemma => kernel_rfl)) (by as_aux_lemma => kernel_rfl)) (by as_aux_lemma => kernel_rfl)) (by as_aux_lemma => kernel_rfl)) (by as_aux_lemma => kernel_rfl)) (by as_aux_lemma => kernel_rfl)) (by as_aux_lemma => kernel_rfl)) (by as_aux_lemma => kernel_rfl)) (by as_aux_lemma => kernel_rfl)) (by as_aux_lemma => kernel_rfl)) (by as_aux_lemma => kernel_rfl)) (by as_aux_lemma => kernel_rfl)) (by as_aux_lemma => kernel_rfl)) (by as_aux_lemma => kernel_rfl)) (by as_aux_lemma => kernel_rfl)) (by as_aux_lemma => kernel_rfl)) (by as_aux_lemma => kernel_rfl))
end Go.Proofs.Ytiidekolohphnaa
