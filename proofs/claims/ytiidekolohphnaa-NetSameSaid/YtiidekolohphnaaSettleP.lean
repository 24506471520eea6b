/- What settles: the plain law. -/
import Derived.Test.YtiidekolohphnaaSumOf
namespace Go.Proofs.Ytiidekolohphnaa
open Go.RowKit

def minL : List Int → Int
  | [] => 0
  | x :: l => l.foldl min x
def maxL : List Int → Int
  | [] => 0
  | x :: l => l.foldl max x
theorem foldl_min_le : ∀ (l : List Int) (a : Int), l.foldl min a ≤ a ∧ ∀ x ∈ l, l.foldl min a ≤ x
  | [], a => ⟨Int.le_refl _, fun x h => by cases h⟩
  | y :: l, a => by
    obtain ⟨h1, h2⟩ := foldl_min_le l (min a y)
    rw [List.foldl_cons]
    refine ⟨by omega, fun x hx => ?_⟩
    rcases List.mem_cons.1 hx with rfl | hx
    · omega
    · exact h2 x hx
theorem foldl_max_le : ∀ (l : List Int) (a : Int), a ≤ l.foldl max a ∧ ∀ x ∈ l, x ≤ l.foldl max a
  | [], a => ⟨Int.le_refl _, fun x h => by cases h⟩
  | y :: l, a => by
    obtain ⟨h1, h2⟩ := foldl_max_le l (max a y)
    rw [List.foldl_cons]
    refine ⟨by omega, fun x hx => ?_⟩
    rcases List.mem_cons.1 hx with rfl | hx
    · omega
    · exact h2 x hx
theorem foldl_min_mem : ∀ (l : List Int) (a : Int), l.foldl min a = a ∨ l.foldl min a ∈ l
  | [], a => .inl rfl
  | y :: l, a => by
    rw [List.foldl_cons]
    rcases foldl_min_mem l (min a y) with h | h
    · by_cases c : a ≤ y
      · rw [show min a y = a by omega] at h ⊢; exact .inl h
      · rw [show min a y = y by omega] at h ⊢; exact .inr (by rw [h]; simp)
    · exact .inr (List.mem_cons_of_mem _ h)
theorem foldl_max_mem : ∀ (l : List Int) (a : Int), l.foldl max a = a ∨ l.foldl max a ∈ l
  | [], a => .inl rfl
  | y :: l, a => by
    rw [List.foldl_cons]
    rcases foldl_max_mem l (max a y) with h | h
    · by_cases c : y ≤ a
      · rw [show max a y = a by omega] at h ⊢; exact .inl h
      · rw [show max a y = y by omega] at h ⊢; exact .inr (by rw [h]; simp)
    · exact .inr (List.mem_cons_of_mem _ h)
theorem minL_spec {l : List Int} (h : l ≠ []) : minL l ∈ l ∧ ∀ x ∈ l, minL l ≤ x := by
  cases l with
  | nil => exact absurd rfl h
  | cons a l =>
    refine ⟨?_, fun x hx => ?_⟩
    · rcases foldl_min_mem l a with h | h
      · show l.foldl min a ∈ _; rw [h]; simp
      · exact List.mem_cons_of_mem _ h
    · rcases List.mem_cons.1 hx with rfl | hx
      · exact (foldl_min_le l _).1
      · exact (foldl_min_le l a).2 x hx
theorem maxL_spec {l : List Int} (h : l ≠ []) : maxL l ∈ l ∧ ∀ x ∈ l, x ≤ maxL l := by
  cases l with
  | nil => exact absurd rfl h
  | cons a l =>
    refine ⟨?_, fun x hx => ?_⟩
    · rcases foldl_max_mem l a with h | h
      · show l.foldl max a ∈ _; rw [h]; simp
      · exact List.mem_cons_of_mem _ h
    · rcases List.mem_cons.1 hx with rfl | hx
      · exact (foldl_max_le l _).1
      · exact (foldl_max_le l a).2 x hx

def loP (l : List Int) : Nat := l.idxOf (minL l)
def hiP (l : List Int) : Nat := l.idxOf (maxL l)
def setAmt (l : List Int) : Int := min (-minL l) (maxL l)
def setDue (l : List Int) : Due := ⟨loP l, hiP l, setAmt l⟩
def setStep (l : List Int) : List Int := (l.set (loP l) (minL l + setAmt l)).set (hiP l) (maxL l - setAmt l)
def settleF : Nat → List Int → List Due
  | 0, _ => []
  | n + 1, l => if minL l = 0 then [] else setDue l :: settleF n (setStep l)
def nz (l : List Int) : Nat := l.countP (· ≠ 0)
def setErr (l : List Int) : Int := if l.length = 31 then (if l.all amtOk then (if l.sum = 0 then 0 else 4) else 3) else 1
def setL (l : List Int) : List Due := if setErr l = 0 then settleF 31 l else []

structure SInv (l : List Int) : Prop where
  len : l.length = 31
  ok : ∀ x ∈ l, amtOk x = true
  sum : l.sum = 0

theorem sum_pos {l : List Int} (h : ∀ x ∈ l, 0 ≤ x) {y : Int} (hy : y ∈ l) : y ≤ l.sum := by
  induction l with
  | nil => cases hy
  | cons a l ih =>
    rw [List.sum_cons]
    have ha := h a (by simp)
    have hl := sum_nonneg (l := l) (fun x hx => h x (by simp [hx]))
    rcases List.mem_cons.1 hy with rfl | hy
    · omega
    · have := ih (fun x hx => h x (by simp [hx])) hy; omega
theorem sum_neg {l : List Int} (h : ∀ x ∈ l, x ≤ 0) {y : Int} (hy : y ∈ l) : l.sum ≤ y := by
  induction l with
  | nil => cases hy
  | cons a l ih =>
    rw [List.sum_cons]
    have ha := h a (by simp)
    have hl := sum_nonpos (l := l) (fun x hx => h x (by simp [hx]))
    rcases List.mem_cons.1 hy with rfl | hy
    · omega
    · have := ih (fun x hx => h x (by simp [hx])) hy; omega

theorem SInv.ne {l : List Int} (h : SInv l) : l ≠ [] := by rintro rfl; have := h.len; simp at this
theorem SInv.lo {l : List Int} (h : SInv l) : loP l < 31 ∧ l[loP l]? = some (minL l) := by
  have := List.idxOf_lt_length_of_mem (minL_spec h.ne).1
  refine ⟨by rw [← h.len]; exact this, ?_⟩
  unfold loP
  rw [List.getElem?_eq_getElem this]; simp
theorem SInv.hi {l : List Int} (h : SInv l) : hiP l < 31 ∧ l[hiP l]? = some (maxL l) := by
  have := List.idxOf_lt_length_of_mem (maxL_spec h.ne).1
  refine ⟨by rw [← h.len]; exact this, ?_⟩
  unfold hiP
  rw [List.getElem?_eq_getElem this]; simp
theorem SInv.neg {l : List Int} (h : SInv l) (h0 : minL l ≠ 0) : minL l < 0 ∧ 0 < maxL l ∧ loP l ≠ hiP l := by
  obtain ⟨h1, h2⟩ := minL_spec h.ne
  obtain ⟨h3, h4⟩ := maxL_spec h.ne
  have hneg : minL l < 0 := by
    by_cases c : minL l < 0
    · exact c
    · have := sum_pos (l := l) (fun x hx => by have := h2 x hx; omega) h1
      rw [h.sum] at this; omega
  have hpos : 0 < maxL l := by
    by_cases c : 0 < maxL l
    · exact c
    · have := sum_neg (l := l) (fun x hx => by have := h4 x hx; omega) h1
      rw [h.sum] at this; omega
  refine ⟨hneg, hpos, fun e => ?_⟩
  have a := h.lo.2
  have b := h.hi.2
  rw [e, b] at a
  injection a with a; omega
theorem sum_set : ∀ (l : List Int) (i : Nat) (v x : Int), l[i]? = some x → (l.set i v).sum = l.sum - x + v
  | [], i, v, x, h => by simp at h
  | a :: l, 0, v, x, h => by simp at h; subst h; simp only [List.set_cons_zero, List.sum_cons]; omega
  | a :: l, i + 1, v, x, h => by
    have := sum_set l i v x (by simpa using h)
    simp only [List.set_cons_succ, List.sum_cons, this]; omega
theorem nz_set : ∀ (l : List Int) (i : Nat) (v x : Int), l[i]? = some x → x ≠ 0 → nz (l.set i v) + 1 = nz l + (if v ≠ 0 then 1 else 0)
  | [], i, v, x, h, _ => by simp at h
  | a :: l, 0, v, x, h, hx => by
    simp at h; subst h
    by_cases c : v = 0 <;> simp [nz, c, hx]
  | a :: l, i + 1, v, x, h, hx => by
    have := nz_set l i v x (by simpa using h) hx
    simp only [nz, List.set_cons_succ, List.countP_cons] at *
    omega
theorem amt_min {l : List Int} (h : SInv l) (h0 : minL l ≠ 0) : 0 < setAmt l ∧ setAmt l ≤ 1152921504606846976 ∧ setAmt l ≤ -minL l ∧ setAmt l ≤ maxL l ∧ (setAmt l = -minL l ∨ setAmt l = maxL l) ∧ -1152921504606846976 ≤ minL l ∧ maxL l ≤ 1152921504606846976 := by
  obtain ⟨a, b, _⟩ := h.neg h0
  have c := h.ok _ (minL_spec h.ne).1
  have d := h.ok _ (maxL_spec h.ne).1
  simp [amtOk, btw] at c d
  unfold setAmt
  omega
theorem SInv.step {l : List Int} (h : SInv l) (h0 : minL l ≠ 0) : SInv (setStep l) ∧ nz (setStep l) < nz l := by
  obtain ⟨hn, hp, hne⟩ := h.neg h0
  obtain ⟨a1, a2, a3, a4, a5, a6, a7⟩ := amt_min h h0
  have e1 := h.lo.2
  have e2 : (l.set (loP l) (minL l + setAmt l))[hiP l]? = some (maxL l) := by
    rw [List.getElem?_set_ne hne]; exact h.hi.2
  refine ⟨⟨by simp [setStep, h.len], fun x hx => ?_, ?_⟩, ?_⟩
  · unfold setStep at hx
    rcases List.mem_or_eq_of_mem_set hx with hx | rfl
    · rcases List.mem_or_eq_of_mem_set hx with hx | rfl
      · exact h.ok x hx
      · simp [amtOk, btw]; omega
    · simp [amtOk, btw]; omega
  · unfold setStep
    rw [sum_set _ _ _ _ e2, sum_set _ _ _ _ e1, h.sum]; omega
  · unfold setStep
    have b1 := nz_set l _ (minL l + setAmt l) _ e1 h0
    have b2 := nz_set _ _ (maxL l - setAmt l) _ e2 (by omega)
    rcases a5 with a5 | a5
    · rw [if_neg (by omega)] at b1; split at b2 <;> omega
    · rw [if_neg (by omega)] at b2; split at b1 <;> omega
theorem nz_le (l : List Int) : nz l ≤ l.length := List.countP_le_length
theorem SInv.nz0 {l : List Int} (h : SInv l) (h0 : minL l ≠ 0) : 1 ≤ nz l := by
  have := (h.step h0).2; omega
theorem settle_zero {n : Nat} {l : List Int} (h : minL l = 0) : settleF n l = [] := by cases n <;> simp [settleF, h]
theorem setErr_inv {l : List Int} (h : setErr l = 0) : SInv l := by
  unfold setErr at h
  split at h
  · split at h
    · split at h
      · rename_i a b c; exact ⟨a, by simpa using b, c⟩
      · cases h
    · cases h
  · cases h
theorem settle_len : ∀ (n : Nat) (l : List Int), (settleF n l).length ≤ n
  | 0, _ => by simp [settleF]
  | n + 1, l => by
    rw [settleF]; split
    · simp
    · have := settle_len n (setStep l); simp; omega
end Go.Proofs.Ytiidekolohphnaa
