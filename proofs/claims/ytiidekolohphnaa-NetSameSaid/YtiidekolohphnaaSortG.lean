/- Sorting a slice of the call's own: between the two vocabularies -/
import Derived.Test.YtiidekolohphnaaBase
import Derived.Shelf.SlSortCmp.NoneTotal
import Derived.Sort.OwnSorted
namespace Go.Proofs.Ytiidekolohphnaa
open Go.RowKit Go.Shelf Go.Sort

section
variable {α : Type} [Inhabited α] {enc : α → List Value} {e k : Nat} {w : World} {B g cap : Nat} {l l' : List α}
theorem flatK_eq (henc : ∀ x, (enc x).length = k) (l : List α) : flatK enc k l.toArray = (l.flatMap enc).toArray := by
  refine Array.ext_getElem? fun t => ?_
  by_cases ht : t < l.length * k
  · have hk : 0 < k := by
      rcases Nat.eq_zero_or_pos k with rfl | h
      · simp at ht
      · exact h
    have hq : t / k < l.length := Nat.div_lt_of_lt_mul (by rw [Nat.mul_comm]; exact ht)
    have hr : t % k < k := Nat.mod_lt _ hk
    have := flat_get henc l (t / k) (t % k) hq hr
    rw [show t / k * k + t % k = t by rw [Nat.mul_comm]; exact Nat.div_add_mod t k] at this
    have h2 : t % k < (enc l[t / k]).length := by rw [henc]; exact hr
    have e2 : (l.flatMap enc).toArray[t]? = (enc l[t / k])[t % k]? := by rw [List.getElem?_toArray]; exact this
    rw [e2, List.getElem?_eq_getElem h2]
    simp [flatK, ht, hq, h2]
  · rw [Array.getElem?_eq_none (by simp; omega), Array.getElem?_eq_none (by simp only [List.size_toArray]; rw [flat_len henc]; omega)]
theorem ow_holdsK (henc : ∀ x, (enc x).length = k) (h : Ow enc e k w B (.slice (some ⟨g, 0, none⟩) l.length cap) l) : HoldsK enc k w g 0 l.toArray := by
  unfold HoldsK
  rw [flatK_eq henc]
  intro j hj
  have hj' : j < l.length * k := by simp only [List.size_toArray] at hj; rwa [flat_len henc] at hj
  have hc := World.ownsRow.cellAt h j hj'
  have hf := World.ownsRow.frozenAt h j
  rw [Nat.zero_add]
  refine ⟨?_, hf⟩
  rw [hc]
  simp only [List.size_toArray] at hj
  generalize l.flatMap enc = L at hj
  simp [hj]
theorem heap_sortedK {cur : Array Value} {t : TypeId} {fr : Nat × Nat} {n : Nat} {os : Array Obj} (d : Array α) (hb : w.heap[g]? = some (.cells cur t fr)) :
    (sortWorldK enc k w g 0 n d os).heap[g]? = some (.cells (putCells id 0 (flatK enc k d) cur) t fr) := by
  have hg : g < w.heap.size := (Array.getElem?_eq_some_iff.1 hb).1
  unfold sortWorldK putRowK
  rw [heap_grow_old _ _ (by simpa using hg)]
  simp [putRow, mapBlock, Sort.ahead, Array.getElem?_modify, hb, onCells]
theorem grownBy_sortedK {n : Nat} {os : Array Obj} (d : Array α) : w.grownBy (sortWorldK enc k w g 0 n d os) (some g) := by
  refine ⟨rfl, rfl, rfl, by simp [sortWorldK, putRowK], fun j hj hne => ?_⟩
  unfold sortWorldK putRowK
  rw [heap_grow_old _ _ (by simpa using hj)]
  have : g ≠ j := fun e => hne (by rw [e])
  simp [putRow, mapBlock, Sort.ahead, Array.getElem?_modify, this]
theorem ow_sortedK (henc : ∀ x, (enc x).length = k) (h : Ow enc e k w B (.slice (some ⟨g, 0, none⟩) l.length cap) l) (hl : l'.length = l.length) {n : Nat} {os : Array Obj} :
    Ow enc e k (sortWorldK enc k w g 0 n l'.toArray os) B (.slice (some ⟨g, 0, none⟩) l'.length cap) l' := by
  obtain ⟨_, h | ⟨g', cap', cur, hv, hB, hb, h1, h2, h3, h4⟩⟩ := h
  · cases h.1
  · injection hv with hv1 hv2 hv3
    injection hv1 with hv1
    injection hv1 with hv1
    subst hv1 hv3
    refine ⟨flat_len henc l', .inr ⟨g, cap, _, rfl, hB, heap_sortedK _ hb, by omega, h2, by simp [putCells, h3], ?_⟩⟩
    rw [flatK_eq henc]
    have hsz : (l'.flatMap enc).length ≤ cur.size := by rw [flat_len henc, h3]; exact Nat.mul_le_mul_right k (by omega)
    have hfl := flat_len henc l'
    refine List.ext_getElem? fun j => ?_
    by_cases hj : j < l'.length * k
    · have hj2 : j < (l'.flatMap enc).length := by omega
      have hj3 : j < cur.size := by omega
      rw [List.getElem?_take_of_lt hj, Array.getElem?_toList]
      generalize l'.flatMap enc = L at hj2
      simp [putCells, hj2, hj3]
    · rw [List.getElem?_take_eq_none (by omega), List.getElem?_eq_none (by omega)]
end
end Go.Proofs.Ytiidekolohphnaa
