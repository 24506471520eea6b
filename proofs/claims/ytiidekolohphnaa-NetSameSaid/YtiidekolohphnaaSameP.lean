/- What settles, taken as dues: the plain laws -/
import Derived.Test.YtiidekolohphnaaStandP
import Derived.Test.YtiidekolohphnaaSettleP
namespace Go.Proofs.Ytiidekolohphnaa
open Go.RowKit

theorem settled_zero {L : List Int} (h : SInv L) (h0 : minL L = 0) : ∀ x ∈ L, x = 0 := by
  have hge : ∀ x ∈ L, 0 ≤ x := fun x hx => by have := (minL_spec h.ne).2 x hx; omega
  intro x hx
  have h1 := sum_pos hge hx
  have h2 := hge x hx
  have h3 := h.sum
  omega
/-- Each stands as what settles it says. -/
theorem settle_stand : ∀ (n : Nat) (L : List Int), SInv L → nz L ≤ n → ∀ p, p < 31 → L[p]? = some (standAt (settleF n L) p)
  | n, L, h, hn, p, hp => by
    by_cases h0 : minL L = 0
    · rw [settle_zero h0, standAt_nil]
      have hp' : p < L.length := by rw [h.len]; exact hp
      rw [List.getElem?_eq_getElem hp', settled_zero h h0 _ (List.getElem_mem hp')]
    · have h1 := h.nz0 h0
      obtain ⟨m, rfl⟩ : ∃ m, n = m + 1 := ⟨n - 1, by omega⟩
      obtain ⟨hs, hlt⟩ := h.step h0
      have ih := settle_stand m (setStep L) hs (by omega) p hp
      rw [settleF, if_neg h0, standAt_cons]
      generalize standAt (settleF m (setStep L)) p = S at ih ⊢
      obtain ⟨_, _, hne⟩ := h.neg h0
      have e1 := h.lo.2
      have e2 := h.hi.2
      have l1 := h.lo.1
      have l2 := h.hi.1
      have hlen := h.len
      unfold setStep at ih
      rw [List.getElem?_set, List.getElem?_set] at ih
      simp only [List.length_set] at ih
      unfold own1 setDue
      dsimp only
      by_cases c1 : hiP L = p
      · subst c1
        rw [if_pos rfl, if_pos (by omega)] at ih
        rw [if_pos rfl, if_neg (by omega), e2]
        have := Option.some.inj ih
        congr 1; omega
      · rw [if_neg c1] at ih
        by_cases c2 : loP L = p
        · subst c2
          rw [if_pos rfl, if_pos (by omega)] at ih
          rw [if_neg (by omega), if_pos rfl, e1]
          have := Option.some.inj ih
          congr 1; omega
        · rw [if_neg c2] at ih
          rw [if_neg (by omega), if_neg (by omega), ih]
          congr 1; omega
theorem settle_ok : ∀ (n : Nat) (L : List Int), SInv L → ∀ d ∈ settleF n L, dueErr d = 0
  | 0, L, _, d, hd => by simp [settleF] at hd
  | n + 1, L, h, d, hd => by
    rw [settleF] at hd
    split at hd
    · cases hd
    · rename_i h0
      rcases List.mem_cons.1 hd with rfl | hd
      · obtain ⟨a1, a2, _⟩ := amt_min h h0
        obtain ⟨_, _, hne⟩ := h.neg h0
        have l1 := h.lo.1
        have l2 := h.hi.1
        have e1 : ((loP L : Nat) : Int) ≤ 30 := by omega
        have e2 : ((hiP L : Nat) : Int) ≤ 30 := by omega
        have e3 : ((loP L : Nat) : Int) ≠ ((hiP L : Nat) : Int) := by omega
        simp only [dueErr, dueOk, btw, setDue]
        grind
      · exact settle_ok n _ (h.step h0).1 d hd
/-- With what settles how all stand, all stand as they stood. -/
theorem settle_same {l : List Due} (h : standErr l = 0) : setErr (standL l) = 0 ∧ standErr (setL (standL l)) = 0 ∧ standL (setL (standL l)) = standL l := by
  obtain ⟨h0, hall⟩ := standErr_ok h
  obtain ⟨h60, hok⟩ := netErr_ok h0
  have hlen := standL_len h
  have hamt : ∀ n ∈ standL l, amtOk n = true := fun n hn => by
    obtain ⟨p, hp, rfl⟩ := List.getElem_of_mem hn
    have h1 := standL_at h (p := p) (by omega)
    rw [List.getElem?_eq_getElem hp] at h1
    rw [Option.some.inj h1]; exact hall p (by omega)
  have hsum : (standL l).sum = 0 := by unfold standL; rw [if_pos h]; exact stand_sum hok
  have he : setErr (standL l) = 0 := by unfold setErr; rw [if_pos hlen, if_pos (by simpa using hamt), if_pos hsum]
  have hI := setErr_inv he
  have hL : setL (standL l) = settleF 31 (standL l) := by rw [setL, if_pos he]
  have hst := settle_stand 31 (standL l) hI (by have := nz_le (standL l); omega)
  have hs : standErr (setL (standL l)) = 0 := by
    rw [hL]
    refine standErr_of (netErr_of (by have := settle_len 31 (standL l); omega) (settle_ok 31 _ hI)) fun p hp => ?_
    have h1 := hst p hp
    rw [standL_at h hp] at h1
    rw [← Option.some.inj h1]; exact hall p hp
  refine ⟨he, hs, List.ext_getElem? fun p => ?_⟩
  by_cases hp : p < 31
  · rw [standL_at hs hp, hst p hp, hL]
  · rw [List.getElem?_eq_none (by rw [standL_len hs]; omega), List.getElem?_eq_none (by omega)]
end Go.Proofs.Ytiidekolohphnaa
