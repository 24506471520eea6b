/- ring: what it comes to -/
import Derived.Test.YtiidekolohphnaaPairsP
import Derived.Test.YtiidekolohphnaaNetD
import Derived.Test.YtiidekolohphnaaSettle
import Derived.Test.YtiidekolohphnaaSame
namespace Go.Proofs.Ytiidekolohphnaa
open Go.RowKit

theorem slD_new (w : World) (L : List Due) (t : TypeId) : SlD (w.alloc (.cells (L.flatMap encD).toArray t)) (some ⟨w.heap.size, 0, none⟩) L := fun _ =>
  ⟨w.heap.size, 0, rfl, by simp, fun i hi j v hv => by
    rw [World.cell?_alloc_at _ _ _ _ rfl]
    have hj : j < 3 := by have := (List.getElem?_eq_some_iff.1 hv).1; simpa using this
    have := flat_get (enc := encD) (k := 3) (fun _ => rfl) L i j hi hj
    simp only [Nat.zero_add, List.getElem?_toArray]
    rw [this, hv]⟩

def ringL : List Due := [⟨0, 1, 10⟩, ⟨1, 2, 7⟩, ⟨2, 0, 5⟩, ⟨1, 0, 4⟩]
def ringS : List Int := [-1, -1, 2, 0, 0, 0, 0, 0, 0, 0, 0, 0, 0, 0, 0, 0, 0, 0, 0, 0, 0, 0, 0, 0, 0, 0, 0, 0, 0, 0, 0]
def ringP : List Due := [⟨0, 1, 6⟩, ⟨2, 0, 5⟩, ⟨1, 2, 7⟩]
def ringD : List Due := [⟨0, 2, 1⟩, ⟨1, 2, 1⟩]
theorem ring_S : standErr ringL = 0 ∧ standL ringL = ringS := by decide +kernel
theorem ring_P : pErr ringL = 0 ∧ pL ringL = ringP := by decide +kernel
theorem ring_D : setErr ringS = 0 ∧ setL ringS = ringD := by decide +kernel
theorem ring_N : setErr [] = 1 ∧ setL [] = [] := by decide +kernel
theorem ring_C : netErr [⟨0, 0, 1⟩] = 1 := by decide +kernel

theorem ring_any (w : World) : Calls Try.prog 99 #[] w fun e w' => ∃ ao cap, e = .returned (.slice ao 4 cap) ∧ SlD w' ao ringL ∧ Below w.heap.size w w' := by
  go_enter Try.func99, Try.ntmps99
  go_wp2_with fail
  go_ret
  exact ⟨_, _, rfl, slD_new w ringL 49, bal (Below.refl _ _) _⟩
end Go.Proofs.Ytiidekolohphnaa
