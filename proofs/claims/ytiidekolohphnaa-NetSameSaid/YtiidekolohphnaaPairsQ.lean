/- Pairs: the order of what is left, and that any order of the keys serves -/
import Derived.Test.YtiidekolohphnaaPairsP
import Derived.Test.YtiidekolohphnaaCmp
namespace Go.Proofs.Ytiidekolohphnaa
open Go.RowKit

/-- the builtins, as the walk writes them -/
abbrev mn (a b : Int) : Int := min a b
abbrev mx (a b : Int) : Int := max a b
def ordD (x y : Due) : Int := cmpL [mn x.frm x.to, mx x.frm x.to] [mn y.frm y.to, mx y.frm y.to]
def ltD (x y : Due) : Prop := mn x.frm x.to < mn y.frm y.to ∨ (mn x.frm x.to = mn y.frm y.to ∧ mx x.frm x.to < mx y.frm y.to)
theorem ordD_neg (x y : Due) : ordD x y < 0 ↔ ltD x y := by
  simp only [ordD, cmpL, cmpI, ltD]
  generalize mn x.frm x.to = a; generalize mx x.frm x.to = b; generalize mn y.frm y.to = c; generalize mx y.frm y.to = d
  constructor
  · intro h; grind
  · intro h; grind
theorem ltD_irrefl (x : Due) : ¬ ltD x x := by unfold ltD; omega
theorem ltD_trans {x y z : Due} (h1 : ltD x y) (h2 : ltD y z) : ltD x z := by unfold ltD at *; omega
theorem ltD_ntrans {x y z : Due} (h1 : ¬ ltD x y) (h2 : ¬ ltD y z) : ¬ ltD x z := by unfold ltD at *; omega

theorem pDue_mem {a b : Nat} {n : Int} {x : Due} (hab : a < b) (h : x ∈ pDue a b n) : mn x.frm x.to = a ∧ mx x.frm x.to = b ∧ 0 < x.amt ∧ ((x.frm = a ∧ x.to = b ∧ x.amt = n) ∨ (x.frm = b ∧ x.to = a ∧ x.amt = -n)) := by
  unfold pDue at h
  split at h
  · simp at h; subst h; simp [mn, mx]; omega
  · split at h
    · simp at h; subst h; simp [mn, mx]; omega
    · cases h
theorem pRow_mem {l : List Due} {a : Nat} {x : Due} (h : x ∈ pRow l a) : ∃ b : Nat, a < b ∧ b ≤ 30 ∧ x ∈ pDue a b (pSum l a b) := by
  simp only [pRow, pRowTo, List.mem_flatMap, List.mem_range'_1] at h
  obtain ⟨b, hb, hx⟩ := h
  exact ⟨b, by omega, by omega, hx⟩
theorem pRaw_mem {l : List Due} {n : Nat} {x : Due} (h : x ∈ pRaw l n) : ∃ a b : Nat, a < n ∧ a < b ∧ b ≤ 30 ∧ x ∈ pDue a b (pSum l a b) := by
  simp only [pRaw, List.mem_flatMap, List.mem_range] at h
  obtain ⟨a, ha, hx⟩ := h
  obtain ⟨b, h1, h2, h3⟩ := pRow_mem hx
  exact ⟨a, b, ha, h1, h2, h3⟩
theorem pRaw_sorted (l : List Due) (n : Nat) : (pRaw l n).Pairwise ltD := by
  unfold pRaw
  rw [List.pairwise_flatMap]
  refine ⟨fun a _ => ?_, ?_⟩
  · unfold pRow pRowTo
    rw [List.pairwise_flatMap]
    refine ⟨fun b _ => ?_, ?_⟩
    · unfold pDue
      split
      · simp
      · split <;> simp
    · refine (List.pairwise_lt_range' (s := a + 1) (n := 30 - a)).imp_of_mem ?_
      intro b c hb hc hlt x hx y hy
      simp only [List.mem_range'_1] at hb hc
      have h1 := pDue_mem (by omega) hx
      have h2 := pDue_mem (by omega) hy
      unfold ltD; omega
  · refine List.pairwise_lt_range.imp_of_mem ?_
    intro a c ha hc hlt x hx y hy
    obtain ⟨b, h1, h2, h3⟩ := pRow_mem hx
    obtain ⟨d, h4, h5, h6⟩ := pRow_mem hy
    have h1 := pDue_mem h1 h3
    have h2 := pDue_mem h4 h6
    unfold ltD; omega

/-- Sorted, and a turn of what is sorted strictly: that itself. -/
theorem sorted_is {l l' : List Due} (hp : l'.Perm l) (hs : l.Pairwise ltD) (h : l'.Pairwise fun a b => ¬ ltD b a) : l' = l := by
  have htot : ∀ a ∈ l, ∀ b ∈ l, a ≠ b → ltD a b ∨ ltD b a := by
    clear h hp
    induction l with
    | nil => simp
    | cons x l ih =>
      obtain ⟨h1, h2⟩ := List.pairwise_cons.1 hs
      intro a ha b hb hne
      rcases List.mem_cons.1 ha with e1 | ha' <;> rcases List.mem_cons.1 hb with e2 | hb'
      · exact absurd (e1.trans e2.symm) hne
      · exact .inl (e1 ▸ h1 b hb')
      · exact .inr (e2 ▸ h1 a ha')
      · exact ih h2 a ha' b hb' hne
  have hnd : l.Nodup := by
    show l.Pairwise (· ≠ ·)
    refine List.Pairwise.imp (S := (· ≠ ·)) ?_ hs
    intro a b hab e
    subst e
    exact ltD_irrefl _ hab
  have hnd' : l'.Nodup := hp.nodup_iff.2 hnd
  have h' : l'.Pairwise ltD := by
    refine List.Pairwise.imp_of_mem (R := fun a b => a ≠ b ∧ ¬ ltD b a) ?_ (List.Pairwise.and hnd' h)
    intro a b ha hb ⟨hne, hn⟩
    rcases htot a (hp.mem_iff.1 ha) b (hp.mem_iff.1 hb) hne with h1 | h1
    · exact h1
    · exact absurd h1 hn
  exact hp.eq_of_pairwise (fun a b _ _ h1 h2 => absurd (ltD_trans h1 h2) (ltD_irrefl a)) h' hs

/-- All pairs of parties, in the document's order. -/
def allP : List (Nat × Nat) := (List.range 31).flatMap fun a => (List.range' (a + 1) (30 - a)).map fun b => (a, b)
theorem mem_allP {p : Nat × Nat} : p ∈ allP ↔ p.1 < p.2 ∧ p.2 ≤ 30 := by
  obtain ⟨a, b⟩ := p
  simp only [allP, List.mem_flatMap, List.mem_range, List.mem_map, List.mem_range'_1, Prod.mk.injEq]
  constructor
  · rintro ⟨a', h1, b', h2, rfl, rfl⟩; omega
  · intro h; exact ⟨a, by omega, b, by omega, rfl, rfl⟩
def pOf (l : List Due) (p : Nat × Nat) : List Due := pDue p.1 p.2 (pSum l p.1 p.2)
theorem pRaw_all (l : List Due) : pRaw l 31 = allP.flatMap (pOf l) := by
  unfold allP pRaw pRow pRowTo
  rw [List.flatMap_assoc]
  simp only [List.flatMap_map]; rfl
theorem allP_nodup : allP.Nodup := by
  unfold allP
  rw [List.Nodup, List.pairwise_flatMap]
  refine ⟨fun a _ => ?_, ?_⟩
  · rw [List.pairwise_map]
    exact (List.nodup_range' (s := a + 1) (n := 30 - a)).imp (fun h e => h (by simpa using e))
  · refine List.nodup_range.imp (fun {a b} h x hx y hy e => ?_)
    simp only [List.mem_map] at hx hy
    obtain ⟨_, _, rfl⟩ := hx
    obtain ⟨_, _, rfl⟩ := hy
    exact h (by simpa using (Prod.mk.inj e).1)
theorem flatMap_skip {α β : Type} {f : α → List β} {p : α → Bool} : ∀ (l : List α), (∀ x ∈ l, p x = false → f x = []) → (l.filter p).flatMap f = l.flatMap f
  | [], _ => rfl
  | x :: l, h => by
    have ih := flatMap_skip l (fun y hy => h y (by simp [hy]))
    rw [List.filter_cons]
    split
    · simp [ih]
    · rename_i hx
      rw [ih, List.flatMap_cons, h x (by simp) (by simpa using hx)]; rfl
/-- Whatever the order in which the keys came: the same dues. -/
theorem pRaw_perm (l : List Due) (ss : List (Nat × Nat)) (hn : ss.Nodup) (hs : ∀ p ∈ ss, p.1 < p.2 ∧ p.2 ≤ 30) (h0 : ∀ p, p.1 < p.2 → p.2 ≤ 30 → p ∉ ss → dueToL l p.2 p.1 = []) : (ss.flatMap (pOf l)).Perm (pRaw l 31) := by
  rw [pRaw_all, ← flatMap_skip (p := fun p => decide (p ∈ ss)) allP]
  · refine List.Perm.flatMap_right _ ?_
    refine (List.perm_ext_iff_of_nodup hn (allP_nodup.filter _)).2 fun p => ?_
    rw [List.mem_filter, mem_allP]
    exact ⟨fun h => ⟨hs p h, by simpa using h⟩, fun h => by simpa using h.2⟩
  · intro p hp hq
    obtain ⟨h1, h2⟩ := mem_allP.1 hp
    have := h0 p h1 h2 (by simpa using hq)
    simp [pOf, pSum, this, pDue]
end Go.Proofs.Ytiidekolohphnaa
