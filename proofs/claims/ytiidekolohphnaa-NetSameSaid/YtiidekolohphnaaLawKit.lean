/- Arguments of a law: slices of numbers and of dues, as lists -/
import Derived.Test.YtiidekolohphnaaBase
import Derived.ProofKit
import Derived.OpenShut
import Derived.ShutString
import Derived.ChangeOld
import Derived.Deep.Slices
import Derived.Deep.Fields
import Derived.ChangeSame
namespace Go.Proofs.Ytiidekolohphnaa
open Go.ChangeShapes Go.WideShapes Go.ChangeAt Go.RowKit Go.Deep

theorem lawOwn : ownKnob Try.prog.godebug = none := by kernel_rfl
theorem lawLaid : laidOutB Try.prog = true := by kernel_rfl
theorem addr_lit {b off : Nat} (i : Nat) : (⟨b, off, none⟩ : Addr).add i = ⟨b, off + i, none⟩ := by simp [Addr.add]

theorem lawInts {H : Type} {enc : TypeId × Value → H} {W : World} {a0 : Option Addr} {len cap : Nat} {d : DataW H} {p : List MemPlace} (h : DataW.Trod enc Try.prog W 0 (fun _ => true) true 22 (.slice a0 len cap) d p) :
    ∃ l : List Int, l.length = len ∧ SlI W a0 l ∧ len ≤ cap ∧ cap ≤ maxLen ∧ ∀ n ∈ l, -9223372036854775808 ≤ n ∧ n ≤ 9223372036854775807 := by
  obtain ⟨fuel, hf⟩ := h
  rcases open_ints Try.underlying22 Try.underlying3 (by kernel_rfl) hf with ⟨hcs, _⟩ | ⟨x, l, c, zs, hcs, _, hl, hm, hz, hx, hcell, hwz⟩
  · simp [Value.cells] at hcs
    obtain ⟨rfl, rfl, rfl⟩ := hcs
    exact ⟨[], rfl, Sl.nil, Nat.le_refl _, by unfold maxLen; omega, by simp⟩
  · simp [Value.cells] at hcs
    obtain ⟨rfl, rfl, rfl⟩ := hcs
    have hz' : zs.length = cap := by simpa using hz
    refine ⟨zs.take len, by simp; omega, fun h0 => ?_, hl, hm, fun n hn => ?_⟩
    · have h0' : 0 < len := by simp at h0; omega
      have hc0 := hcell 0 (by omega)
      obtain ⟨b, off, spot⟩ := x
      have hsp : spot = none := by simpa [Addr.add] using World.cell?_spot hc0
      subst hsp
      have hb : b < W.heap.size := by
        rcases Nat.lt_or_ge b W.heap.size with h1 | h1
        · exact h1
        · rw [addr_lit] at hc0
          simp [World.cell?, h1] at hc0
      refine ⟨b, off, rfl, hb, fun i hi j v hv => ?_⟩
      have hi' : i < len := by simp at hi; omega
      cases j with
      | zero =>
        have := hcell i (by omega)
        rw [addr_lit] at this
        simp at hv
        rw [Nat.mul_one, Nat.add_zero, this, ← hv]
        simp [List.getD, show i < zs.length by omega]
      | succ j => simp at hv
    · have := hwz n (List.mem_of_mem_take hn)
      simp [Lit.wf] at this; exact this

theorem one_of {α : Type} {cs : List α} {j : Nat} {v : α} (h : (cs.drop j).take 1 = [v]) : cs[j]? = some v := by
  have : ((cs.drop j).take 1)[0]? = some v := by rw [h]; rfl
  simpa using this
theorem lawDues {H : Type} {enc : TypeId × Value → H} {W : World} {a0 : Option Addr} {len cap : Nat} {d : DataW H} {p : List MemPlace} (h : DataW.Trod enc Try.prog W 0 (fun _ => true) true 30 (.slice a0 len cap) d p) :
    ∃ l : List Due, l.length = len ∧ SlD W a0 l ∧ len ≤ cap ∧ cap ≤ maxLen := by
  obtain ⟨fuel, hf⟩ := h
  rcases open_slice Try.underlying30 hf with ⟨hcs, _⟩ | ⟨x, l, c, m, n, D, Pl, hcs, _, hl, hm, hmm, hx, hi⟩
  · simp [Value.cells] at hcs
    obtain ⟨rfl, rfl, rfl⟩ := hcs
    exact ⟨[], rfl, Sl.nil, Nat.le_refl _, by unfold maxLen; omega⟩
  · simp [Value.cells] at hcs
    obtain ⟨rfl, rfl, rfl⟩ := hcs
    simp at hmm
    subst hmm
    have hC : Try.prog.cellsOf 49 = 3 := by kernel_rfl
    have h1 : Try.prog.cellsOf 3 = 1 := by kernel_rfl
    rw [hC] at hi
    have key : ∀ i, i < len → ∃ d : Due, ∀ j v, (encD d)[j]? = some v → W.cell? ((x.add (i * 3)).add j) = some v := by
      intro i hil
      obtain ⟨cs', hc, ht⟩ := hi i (by omega)
      obtain ⟨ys, n', hn', hy, hlen, hyl, hfs⟩ := DataW.trod_struct Try.underlying49 ht
      obtain ⟨_, hcl, hat⟩ := World.cells?_some hc
      have g0 : DataW.trod enc Try.prog W 0 (fun _ => true) true n' 3 ((cs'.drop 0).take (Try.prog.cellsOf 3)) = ys[0]? := hfs 0 _ rfl
      have g1 : DataW.trod enc Try.prog W 0 (fun _ => true) true n' 3 ((cs'.drop 1).take (Try.prog.cellsOf 3)) = ys[1]? := hfs 1 _ rfl
      have g2 : DataW.trod enc Try.prog W 0 (fun _ => true) true n' 3 ((cs'.drop 2).take (Try.prog.cellsOf 3)) = ys[2]? := hfs 2 _ rfl
      rw [h1] at g0 g1 g2
      have hyl : ys.length = 3 := hyl
      obtain ⟨y0, e0⟩ : ∃ y, ys[0]? = some y := ⟨_, List.getElem?_eq_getElem (by omega)⟩
      obtain ⟨y1, e1⟩ : ∃ y, ys[1]? = some y := ⟨_, List.getElem?_eq_getElem (by omega)⟩
      obtain ⟨y2, e2⟩ : ∃ y, ys[2]? = some y := ⟨_, List.getElem?_eq_getElem (by omega)⟩
      rw [e0] at g0
      rw [e1] at g1
      rw [e2] at g2
      obtain ⟨n0, c0, _⟩ := DataW.trod_int Try.underlying3 g0
      obtain ⟨n1, c1, _⟩ := DataW.trod_int Try.underlying3 g1
      obtain ⟨n2, c2, _⟩ := DataW.trod_int Try.underlying3 g2
      refine ⟨⟨n0, n1, n2⟩, fun j v hv => ?_⟩
      have hj : j < 3 := by have := (List.getElem?_eq_some_iff.1 hv).1; simpa using this
      rw [hat j hj]
      rcases j with _ | _ | _ | j
      · rw [one_of c0]; simpa using hv
      · rw [one_of c1]; simpa using hv
      · rw [one_of c2]; simpa using hv
      · omega
    obtain ⟨f, hf⟩ := Classical.axiomOfChoice (fun i : Fin len => key i i.2)
    refine ⟨List.ofFn f, by simp, fun h0 => ?_, hl, hm⟩
    have h0' : 0 < len := by simpa using h0
    have hc0 := hf ⟨0, h0'⟩ 0 _ rfl
    obtain ⟨b, off, spot⟩ := x
    have hsp : spot = none := by simpa [Addr.add] using World.cell?_spot hc0
    subst hsp
    have hb : b < W.heap.size := by
      rcases Nat.lt_or_ge b W.heap.size with h1 | h1
      · exact h1
      · rw [addr_lit, addr_lit] at hc0
        simp [World.cell?, h1] at hc0
    refine ⟨b, off, rfl, hb, fun i hi' j v hv => ?_⟩
    have hi2 : i < len := by simpa using hi'
    rw [List.getElem_ofFn] at hv
    have := hf ⟨i, hi2⟩ j v hv
    rw [addr_lit, addr_lit] at this
    exact this
end Go.Proofs.Ytiidekolohphnaa
