/- The invariant of net.Stand's one region that draws its order. -/
import Derived.Test.YtiidekolohphnaaNetC
import Derived.Test.YtiidekolohphnaaRegion
import Derived.Deep.OwnRows
namespace Go.Proofs.Ytiidekolohphnaa
open Go.RowKit

structure StP where
  w0 : World
  W0 : World
  A : Nat
  D : Nat
  f : Nat
  t : Nat
  amt : Int
  V : Nat → Value
  L : Nat → List Int

def stC (p : StP) : Nat → Option Value
  | 0 => some (.pointer (some ⟨p.D, 0, none⟩))
  | 1 => some (.int .i64 p.f)
  | 2 => some (.pointer (some ⟨p.D, 1, none⟩))
  | 3 => some (.int .i64 p.t)
  | 4 => some (.pointer (some ⟨p.D, 0, none⟩))
  | 5 => some (.int .i64 p.f)
  | 6 => some (.pointer (some ⟨p.A, p.f, none⟩))
  | 7 => some (p.V p.f)
  | 8 => some (.pointer (some ⟨p.D, 2, none⟩))
  | 9 => some (.int .i64 p.amt)
  | 10 => some (.int .i64 (-p.amt))
  | 13 => some (.pointer (some ⟨p.D, 1, none⟩))
  | 14 => some (.int .i64 p.t)
  | 15 => some (.pointer (some ⟨p.A, p.t, none⟩))
  | 16 => some (p.V p.t)
  | 17 => some (.pointer (some ⟨p.D, 2, none⟩))
  | 18 => some (.int .i64 p.amt)
  | 21 => some (.pointer (some ⟨p.A, p.f, none⟩))
  | 23 => some (.pointer (some ⟨p.A, p.t, none⟩))
  | _ => none

/-- What is fixed while the region runs. -/
structure StK (p : StP) : Prop where
  hf : p.f < 31
  ht : p.t < 31
  hne : p.f ≠ p.t
  hA : p.w0.heap.size ≤ p.A ∧ p.A < p.W0.heap.size
  hD : p.w0.heap.size ≤ p.D ∧ p.D < p.W0.heap.size ∧ p.D ≠ p.A
  hDc : p.W0.heap[p.D]? = some (.cells #[.int .i64 p.f, .int .i64 p.t, .int .i64 p.amt] 49 (0, 0))
  hV : ∀ i, i < 31 → ∀ g, (p.V i).ownBlock = some g → g < p.W0.heap.size ∧ g ≠ p.A ∧ g ≠ p.D ∧ p.w0.heap.size ≤ g
  hdj : ∀ i j, i < 31 → j < 31 → i ≠ j → Dj (p.V i) (p.V j)
  hL : ∀ i, i < 31 → (p.L i).length ≤ 1000

def Loc (W0 : World) (v u : Value) : Prop := v.ownBlock = u.ownBlock ∨ ∃ g, v.ownBlock = some g ∧ W0.heap.size ≤ g

structure StI (p : StP) (S : Nat → Bool) (vf : Nat → Value) (w : World) : Prop where
  con : ∀ i c, stC p i = some c → S i = true → vf i = c
  below : Below p.w0.heap.size p.w0 w
  size : p.W0.heap.size ≤ w.heap.size
  due : w.heap[p.D]? = p.W0.heap[p.D]?
  row : ∃ U, w.rowIs p.A 106 31 U ∧ (∀ i, i < 31 → i ≠ p.f → i ≠ p.t → U i = p.V i) ∧ U p.f = (if S 22 then vf 12 else p.V p.f) ∧ U p.t = (if S 24 then vf 20 else p.V p.t)
  oth : ∀ i, i < 31 → i ≠ p.f → i ≠ p.t → OwI w p.w0.heap.size (p.V i) (p.L i)
  f0 : S 12 = false → OwI w p.w0.heap.size (p.V p.f) (p.L p.f)
  f1 : S 12 = true → OwI w p.w0.heap.size (vf 12) (p.L p.f ++ [-p.amt]) ∧ Loc p.W0 (vf 12) (p.V p.f)
  t0 : S 20 = false → OwI w p.w0.heap.size (p.V p.t) (p.L p.t)
  t1 : S 20 = true → OwI w p.w0.heap.size (vf 20) (p.L p.t ++ [p.amt]) ∧ Loc p.W0 (vf 20) (p.V p.t)
  dj : S 12 = true → S 20 = true → Dj (vf 12) (vf 20)
  b11 : S 11 = true → ∃ g, vf 11 = .slice (some ⟨g, 0, none⟩) 1 1 ∧ p.W0.heap.size ≤ g ∧ w.heap[g]? = some (.cells #[.int .i64 (-p.amt)] 3 (0, 0))
  b19 : S 19 = true → ∃ g, vf 19 = .slice (some ⟨g, 0, none⟩) 1 1 ∧ p.W0.heap.size ≤ g ∧ w.heap[g]? = some (.cells #[.int .i64 p.amt] 3 (0, 0))
  ord : (S 22 = true ∨ S 24 = true) → S 7 = true ∧ S 16 = true ∧ S 12 = true ∧ S 20 = true

theorem don_ne {S : Nat → Bool} {i j : Nat} (h : j ≠ i) : don S i j = S j := by simp [don, h]
theorem don_self (S : Nat → Bool) (i : Nat) : don S i i = true := by simp [don]
theorem upd_ne {vf : Nat → Value} {i j : Nat} {v : Value} (h : j ≠ i) : upd vf i v j = vf j := by simp [upd, h]
theorem upd_self (vf : Nat → Value) (i : Nat) (v : Value) : upd vf i v i = v := by simp [upd]

variable {p : StP} {S : Nat → Bool} {vf : Nat → Value} {w : World}

theorem con_step {i : Nat} {v : Value} (h : ∀ j c, stC p j = some c → S j = true → vf j = c) (hi : ∀ c, stC p i = some c → v = c) : ∀ j c, stC p j = some c → don S i j = true → upd vf i v j = c := by
  intro j c hj hd
  by_cases e : j = i
  · subst e; rw [upd_self]; exact hi c hj
  · rw [upd_ne e]; rw [don_ne e] at hd; exact h j c hj hd

/-- An operation that only reckons or reads. -/
theorem StI.const (h : StI p S vf w) {i : Nat} {c : Value} (hc : stC p i = some c) : StI p (don S i) (upd vf i c) w := by
  have n11 : (11 : Nat) ≠ i := by rintro rfl; cases hc
  have n12 : (12 : Nat) ≠ i := by rintro rfl; cases hc
  have n19 : (19 : Nat) ≠ i := by rintro rfl; cases hc
  have n20 : (20 : Nat) ≠ i := by rintro rfl; cases hc
  have n22 : (22 : Nat) ≠ i := by rintro rfl; cases hc
  have n24 : (24 : Nat) ≠ i := by rintro rfl; cases hc
  refine ⟨con_step h.con (fun c' hc' => by rw [hc] at hc'; exact Option.some.inj hc'), h.below, h.size, h.due, ?_, h.oth, ?_, ?_, ?_, ?_, ?_, ?_, ?_, ?_⟩
  · rw [don_ne n22, don_ne n24, upd_ne n12, upd_ne n20]; exact h.row
  · rw [don_ne n12]; exact h.f0
  · rw [don_ne n12, upd_ne n12]; exact h.f1
  · rw [don_ne n20]; exact h.t0
  · rw [don_ne n20, upd_ne n20]; exact h.t1
  · rw [don_ne n12, don_ne n20, upd_ne n12, upd_ne n20]; exact h.dj
  · rw [don_ne n11, upd_ne n11]; exact h.b11
  · rw [don_ne n19, upd_ne n19]; exact h.b19
  · rw [don_ne n22, don_ne n24]
    intro hh
    obtain ⟨h1, h2, h3, h4⟩ := h.ord hh
    exact ⟨by simp [don, h1], by simp [don, h2], by simp [don, h3], by simp [don, h4]⟩

theorem heap_alloc_lt {w : World} {k : Nat} {x o : Obj} (h : w.heap[k]? = some x) : (w.alloc o).heap[k]? = some x := by
  rw [Below.heap_alloc w o k (Array.getElem?_eq_some_iff.1 h).1]; exact h

theorem StI.alloc (hk : StK p) (h : StI p S vf w) (o : Obj) : StI p S vf (w.alloc o) := by
  obtain ⟨U, hU, hU1, hU2, hU3⟩ := h.row
  refine ⟨h.con, bal h.below _, by have := h.size; simp; omega, ?_, ⟨U, hU.alloc _, hU1, hU2, hU3⟩, fun i hi h1 h2 => (h.oth i hi h1 h2).alloc _, fun hh => (h.f0 hh).alloc _, fun hh => ⟨(h.f1 hh).1.alloc _, (h.f1 hh).2⟩, fun hh => (h.t0 hh).alloc _, fun hh => ⟨(h.t1 hh).1.alloc _, (h.t1 hh).2⟩, h.dj, fun hh => ?_, fun hh => ?_, h.ord⟩
  · rw [hk.hDc]; exact heap_alloc_lt (h.due.trans hk.hDc)
  · obtain ⟨g, h1, h2, h3⟩ := h.b11 hh
    exact ⟨g, h1, h2, heap_alloc_lt h3⟩
  · obtain ⟨g, h1, h2, h3⟩ := h.b19 hh
    exact ⟨g, h1, h2, heap_alloc_lt h3⟩
theorem StI.mark11 (h : StI p S vf w) {x : Value} (hb : ∃ g, x = .slice (some ⟨g, 0, none⟩) 1 1 ∧ p.W0.heap.size ≤ g ∧ w.heap[g]? = some (.cells #[.int .i64 (-p.amt)] 3 (0, 0))) : StI p (don S 11) (upd vf 11 x) w := by
  refine ⟨con_step h.con (fun c' hc' => by cases hc'), h.below, h.size, h.due, ?_, h.oth, ?_, ?_, ?_, ?_, ?_, ?_, ?_, ?_⟩
  · rw [don_ne (by omega), don_ne (by omega), upd_ne (by omega), upd_ne (by omega)]; exact h.row
  · rw [don_ne (by omega)]; exact h.f0
  · rw [don_ne (by omega), upd_ne (by omega)]; exact h.f1
  · rw [don_ne (by omega)]; exact h.t0
  · rw [don_ne (by omega), upd_ne (by omega)]; exact h.t1
  · rw [don_ne (by omega), don_ne (by omega), upd_ne (by omega), upd_ne (by omega)]; exact h.dj
  · intro _; rw [upd_self]; exact hb
  · rw [don_ne (by omega), upd_ne (by omega)]; exact h.b19
  · intro hh
    rw [don_ne (by omega), don_ne (by omega)] at hh
    obtain ⟨h1, h2, h3, h4⟩ := h.ord hh
    exact ⟨by simp [don, h1], by simp [don, h2], by simp [don, h3], by simp [don, h4]⟩
theorem StI.mark19 (h : StI p S vf w) {x : Value} (hb : ∃ g, x = .slice (some ⟨g, 0, none⟩) 1 1 ∧ p.W0.heap.size ≤ g ∧ w.heap[g]? = some (.cells #[.int .i64 p.amt] 3 (0, 0))) : StI p (don S 19) (upd vf 19 x) w := by
  refine ⟨con_step h.con (fun c' hc' => by cases hc'), h.below, h.size, h.due, ?_, h.oth, ?_, ?_, ?_, ?_, ?_, ?_, ?_, ?_⟩
  · rw [don_ne (by omega), don_ne (by omega), upd_ne (by omega), upd_ne (by omega)]; exact h.row
  · rw [don_ne (by omega)]; exact h.f0
  · rw [don_ne (by omega), upd_ne (by omega)]; exact h.f1
  · rw [don_ne (by omega)]; exact h.t0
  · rw [don_ne (by omega), upd_ne (by omega)]; exact h.t1
  · rw [don_ne (by omega), don_ne (by omega), upd_ne (by omega), upd_ne (by omega)]; exact h.dj
  · rw [don_ne (by omega), upd_ne (by omega)]; exact h.b11
  · intro _; rw [upd_self]; exact hb
  · intro hh
    rw [don_ne (by omega), don_ne (by omega)] at hh
    obtain ⟨h1, h2, h3, h4⟩ := h.ord hh
    exact ⟨by simp [don, h1], by simp [don, h2], by simp [don, h3], by simp [don, h4]⟩
/-- '[]int{-amount}', '[]int{amount}' -/
theorem StI.build11 (hk : StK p) (h : StI p S vf w) : StI p (don S 11) (upd vf 11 (.slice (some ⟨w.heap.size, 0, none⟩) 1 1)) (w.alloc (.cells #[.int .i64 (-p.amt)] 3)) :=
  (h.alloc hk _).mark11 ⟨_, rfl, h.size, heap_alloc_new w _⟩
theorem StI.build19 (hk : StK p) (h : StI p S vf w) : StI p (don S 19) (upd vf 19 (.slice (some ⟨w.heap.size, 0, none⟩) 1 1)) (w.alloc (.cells #[.int .i64 p.amt] 3)) :=
  (h.alloc hk _).mark19 ⟨_, rfl, h.size, heap_alloc_new w _⟩

theorem Loc.notin {W0 : World} {v u x : Value} (h : Loc W0 v u) (hd : Dj u x) (hx : ∀ g, x.ownBlock = some g → g < W0.heap.size) : Dj v x := by
  intro g h1 h2
  rcases h with h | ⟨g', h, hge⟩
  · exact hd g (by rw [← h, h1]) h2
  · rw [h] at h1; cases h1; have := hx _ h2; omega
theorem grown_at {w w' : World} {row : Option Nat} {k : Nat} {x : Obj} (hg : w.grownBy w' row) (h : w.heap[k]? = some x) (hne : row ≠ some k) : w'.heap[k]? = some x := by
  rw [hg.block k (Array.getElem?_eq_some_iff.1 h).1 (fun e => hne e.symm)]; exact h

/-- the append for the one that owes -/
theorem StI.app12 (hk : StK p) (h : StI p S vf w) (h22 : S 22 = false) {v' : Value} {w' : World} (ho : OwI w' p.w0.heap.size v' (p.L p.f ++ [-p.amt])) (hg : w.grownBy w' (p.V p.f).ownBlock)
    (hl : v'.ownBlock = (p.V p.f).ownBlock ∨ v'.ownBlock = some w.heap.size) : StI p (don S 12) (upd vf 12 v') w' := by
  obtain ⟨U, hU, hU1, hU2, hU3⟩ := h.row
  have hVf := hk.hV p.f hk.hf
  have hloc : Loc p.W0 v' (p.V p.f) := hl.imp id fun e => ⟨_, e, h.size⟩
  refine ⟨con_step h.con (fun c' hc' => by cases hc'), btg h.below hg (fun k hk' => (hVf k hk').2.2.2), Nat.le_trans h.size hg.size, ?_, ?_, fun i hi h1 h2 => (h.oth i hi h1 h2).other (hk.hdj _ _ hk.hf hi (Ne.symm h1)) hg, fun hh => ?_, fun _ => ?_, fun hh => (h.t0 (by rwa [don_ne (by omega)] at hh)).other (hk.hdj _ _ hk.hf hk.ht hk.hne) hg, fun hh => ?_, fun _ hh => ?_, fun hh => ?_, fun hh => ?_, ?_⟩
  · rw [hk.hDc]; exact grown_at hg (h.due.trans hk.hDc) (fun e => (hVf _ e).2.2.1 rfl)
  · refine ⟨U, hU.of_block (hg.block _ hU.lt (fun e => (hVf _ e.symm).2.1 rfl)), hU1, ?_, ?_⟩
    · rw [don_ne (by omega), h22]; rw [h22] at hU2; exact hU2
    · rw [don_ne (by omega), upd_ne (by omega)]; exact hU3
  · rw [don_self] at hh; cases hh
  · rw [upd_self]; exact ⟨ho, hloc⟩
  · rw [don_ne (by omega)] at hh
    rw [upd_ne (by omega)]
    have h1 := h.t1 hh
    exact ⟨h1.1.other ((h1.2.notin (hk.hdj _ _ hk.ht hk.hf (Ne.symm hk.hne)) (fun g hg => (hVf g hg).1)).symm) hg, h1.2⟩
  · rw [don_ne (by omega)] at hh
    rw [upd_self, upd_ne (by omega)]
    have h1 := h.t1 hh
    rcases hl with hl | hl
    · intro g e1 e2
      exact (h1.2.notin (hk.hdj _ _ hk.ht hk.hf (Ne.symm hk.hne)) (fun g hg => (hVf g hg).1)) g e2 (by rw [← hl, e1])
    · intro g e1 e2
      rw [hl] at e1; cases e1
      have := (h1.1.base _ e2).2; omega
  · rw [don_ne (by omega)] at hh
    obtain ⟨g, h1, h2, h3⟩ := h.b11 hh
    exact ⟨g, by rw [upd_ne (by omega)]; exact h1, h2, grown_at hg h3 (fun e => by have := (hVf _ e).1; omega)⟩
  · rw [don_ne (by omega)] at hh
    obtain ⟨g, h1, h2, h3⟩ := h.b19 hh
    exact ⟨g, by rw [upd_ne (by omega)]; exact h1, h2, grown_at hg h3 (fun e => by have := (hVf _ e).1; omega)⟩
  · intro hh
    rw [don_ne (by omega), don_ne (by omega)] at hh
    obtain ⟨h1, h2, h3, h4⟩ := h.ord hh
    exact ⟨by simp [don, h1], by simp [don, h2], by simp [don, h3], by simp [don, h4]⟩
/-- the append for the one that is owed -/
theorem StI.app20 (hk : StK p) (h : StI p S vf w) (h24 : S 24 = false) {v' : Value} {w' : World} (ho : OwI w' p.w0.heap.size v' (p.L p.t ++ [p.amt])) (hg : w.grownBy w' (p.V p.t).ownBlock)
    (hl : v'.ownBlock = (p.V p.t).ownBlock ∨ v'.ownBlock = some w.heap.size) : StI p (don S 20) (upd vf 20 v') w' := by
  obtain ⟨U, hU, hU1, hU2, hU3⟩ := h.row
  have hVt := hk.hV p.t hk.ht
  have hloc : Loc p.W0 v' (p.V p.t) := hl.imp id fun e => ⟨_, e, h.size⟩
  refine ⟨con_step h.con (fun c' hc' => by cases hc'), btg h.below hg (fun k hk' => (hVt k hk').2.2.2), Nat.le_trans h.size hg.size, ?_, ?_, fun i hi h1 h2 => (h.oth i hi h1 h2).other (hk.hdj _ _ hk.ht hi (Ne.symm h2)) hg, fun hh => (h.f0 (by rwa [don_ne (by omega)] at hh)).other (hk.hdj _ _ hk.ht hk.hf (Ne.symm hk.hne)) hg, fun hh => ?_, fun hh => ?_, fun _ => ?_, fun hh _ => ?_, fun hh => ?_, fun hh => ?_, ?_⟩
  · rw [hk.hDc]; exact grown_at hg (h.due.trans hk.hDc) (fun e => (hVt _ e).2.2.1 rfl)
  · refine ⟨U, hU.of_block (hg.block _ hU.lt (fun e => (hVt _ e.symm).2.1 rfl)), hU1, ?_, ?_⟩
    · rw [don_ne (by omega), upd_ne (by omega)]; exact hU2
    · rw [don_ne (by omega), h24]; rw [h24] at hU3; exact hU3
  · rw [don_ne (by omega)] at hh
    rw [upd_ne (by omega)]
    have h1 := h.f1 hh
    exact ⟨h1.1.other ((h1.2.notin (hk.hdj _ _ hk.hf hk.ht hk.hne) (fun g hg => (hVt g hg).1)).symm) hg, h1.2⟩
  · rw [don_self] at hh; cases hh
  · rw [upd_self]; exact ⟨ho, hloc⟩
  · rw [don_ne (by omega)] at hh
    rw [upd_self, upd_ne (by omega)]
    have h1 := h.f1 hh
    rcases hl with hl | hl
    · intro g e1 e2
      exact (h1.2.notin (hk.hdj _ _ hk.hf hk.ht hk.hne) (fun g hg => (hVt g hg).1)) g e1 (by rw [← hl, e2])
    · intro g e1 e2
      rw [hl] at e2; cases e2
      have := (h1.1.base _ e1).2; omega
  · rw [don_ne (by omega)] at hh
    obtain ⟨g, h1, h2, h3⟩ := h.b11 hh
    exact ⟨g, by rw [upd_ne (by omega)]; exact h1, h2, grown_at hg h3 (fun e => by have := (hVt _ e).1; omega)⟩
  · rw [don_ne (by omega)] at hh
    obtain ⟨g, h1, h2, h3⟩ := h.b19 hh
    exact ⟨g, by rw [upd_ne (by omega)]; exact h1, h2, grown_at hg h3 (fun e => by have := (hVt _ e).1; omega)⟩
  · intro hh
    rw [don_ne (by omega), don_ne (by omega)] at hh
    obtain ⟨h1, h2, h3, h4⟩ := h.ord hh
    exact ⟨by simp [don, h1], by simp [don, h2], by simp [don, h3], by simp [don, h4]⟩

theorem ow_store {α : Type} {enc : α → List Value} {e k : Nat} {w : World} {B A : Nat} {v u : Value} {i : Nat} {l : List α} (h : Ow enc e k w B v l) (hA : v.ownBlock ≠ some A) : Ow enc e k (w.setCell ⟨A, i, none⟩ u) B v l := by
  refine h.kept (row := some A) ⟨rfl, rfl, rfl, by simp [World.setCell], fun k hk hne => ?_⟩ (.inr hA)
  rw [Below.heap_setCell _ _ _ _ (fun e => hne (by rw [e]))]
theorem heap_setCell_at {w : World} {A i k : Nat} {u : Value} {x : Obj} (h : w.heap[k]? = some x) (hne : k ≠ A) : (w.setCell ⟨A, i, none⟩ u).heap[k]? = some x := by
  rw [Below.heap_setCell _ _ _ _ hne]; exact h
theorem Loc.neA (hk : StK p) {v : Value} {i : Nat} (hi : i < 31) (h : Loc p.W0 v (p.V i)) : v.ownBlock ≠ some p.A := by
  intro e
  rcases h with h | ⟨g, h, hge⟩
  · exact (hk.hV i hi _ (by rw [← h, e])).2.1 rfl
  · rw [h] at e; cases e; have := hk.hA.2; omega

/-- the stores -/
theorem StI.store22 (hk : StK p) (h : StI p S vf w) (h12 : S 12 = true) (h7 : S 7 = true) (h16 : S 16 = true) (h20 : S 20 = true) (v : Value) : StI p (don S 22) (upd vf 22 v) (w.setCell ⟨p.A, p.f, none⟩ (vf 12)) := by
  obtain ⟨U, hU, hU1, hU2, hU3⟩ := h.row
  have hA0 := hk.hA
  refine ⟨con_step h.con (fun c' hc' => by cases hc'), h.below.setCell (by exact hA0.1) _, by have := h.size; simp [World.setCell]; omega, ?_, ?_, fun i hi h1 h2 => ow_store (h.oth i hi h1 h2) (fun e => (hk.hV i hi _ e).2.1 rfl), fun hh => ?_, fun _ => ?_, fun hh => ?_, fun hh => ?_, fun _ hh => ?_, fun hh => ?_, fun hh => ?_, fun _ => ?_⟩
  · rw [hk.hDc]; exact heap_setCell_at (h.due.trans hk.hDc) hk.hD.2.2
  · refine ⟨_, hU.set p.f (vf 12), fun i hi h1 h2 => ?_, ?_, ?_⟩
    · simp only [h1, if_false]; exact hU1 i hi h1 h2
    · simp only [if_true, don_self]; rw [upd_ne (by omega)]
    · rw [don_ne (by omega), upd_ne (by omega)]; simp only [Ne.symm hk.hne, if_false]; exact hU3
  · rw [don_ne (by omega), h12] at hh; cases hh
  · rw [upd_ne (by omega)]; exact ⟨ow_store (h.f1 h12).1 ((h.f1 h12).2.neA hk hk.hf), (h.f1 h12).2⟩
  · rw [don_ne (by omega)] at hh; exact ow_store (h.t0 hh) (fun e => (hk.hV _ hk.ht _ e).2.1 rfl)
  · rw [don_ne (by omega)] at hh; rw [upd_ne (by omega)]; exact ⟨ow_store (h.t1 hh).1 ((h.t1 hh).2.neA hk hk.ht), (h.t1 hh).2⟩
  · rw [don_ne (by omega)] at hh; rw [upd_ne (by omega), upd_ne (by omega)]; exact h.dj h12 hh
  · rw [don_ne (by omega)] at hh
    obtain ⟨g, h1, h2, h3⟩ := h.b11 hh
    exact ⟨g, by rw [upd_ne (by omega)]; exact h1, h2, heap_setCell_at h3 (by omega)⟩
  · rw [don_ne (by omega)] at hh
    obtain ⟨g, h1, h2, h3⟩ := h.b19 hh
    exact ⟨g, by rw [upd_ne (by omega)]; exact h1, h2, heap_setCell_at h3 (by omega)⟩
  · exact ⟨by simp [don, h7], by simp [don, h16], by simp [don, h12], by simp [don, h20]⟩
theorem StI.store24 (hk : StK p) (h : StI p S vf w) (h20 : S 20 = true) (h7 : S 7 = true) (h16 : S 16 = true) (h12 : S 12 = true) (v : Value) : StI p (don S 24) (upd vf 24 v) (w.setCell ⟨p.A, p.t, none⟩ (vf 20)) := by
  obtain ⟨U, hU, hU1, hU2, hU3⟩ := h.row
  have hA0 := hk.hA
  refine ⟨con_step h.con (fun c' hc' => by cases hc'), h.below.setCell (by exact hA0.1) _, by have := h.size; simp [World.setCell]; omega, ?_, ?_, fun i hi h1 h2 => ow_store (h.oth i hi h1 h2) (fun e => (hk.hV i hi _ e).2.1 rfl), fun hh => ?_, fun hh => ?_, fun hh => ?_, fun _ => ?_, fun hh _ => ?_, fun hh => ?_, fun hh => ?_, fun _ => ?_⟩
  · rw [hk.hDc]; exact heap_setCell_at (h.due.trans hk.hDc) hk.hD.2.2
  · refine ⟨_, hU.set p.t (vf 20), fun i hi h1 h2 => ?_, ?_, ?_⟩
    · simp only [h2, if_false]; exact hU1 i hi h1 h2
    · rw [don_ne (by omega), upd_ne (by omega)]; simp only [hk.hne, if_false]; exact hU2
    · simp only [if_true, don_self]; rw [upd_ne (by omega)]
  · rw [don_ne (by omega)] at hh; exact ow_store (h.f0 hh) (fun e => (hk.hV _ hk.hf _ e).2.1 rfl)
  · rw [don_ne (by omega)] at hh; rw [upd_ne (by omega)]; exact ⟨ow_store (h.f1 hh).1 ((h.f1 hh).2.neA hk hk.hf), (h.f1 hh).2⟩
  · rw [don_ne (by omega), h20] at hh; cases hh
  · rw [upd_ne (by omega)]; exact ⟨ow_store (h.t1 h20).1 ((h.t1 h20).2.neA hk hk.ht), (h.t1 h20).2⟩
  · rw [don_ne (by omega)] at hh; rw [upd_ne (by omega), upd_ne (by omega)]; exact h.dj hh h20
  · rw [don_ne (by omega)] at hh
    obtain ⟨g, h1, h2, h3⟩ := h.b11 hh
    exact ⟨g, by rw [upd_ne (by omega)]; exact h1, h2, heap_setCell_at h3 (by omega)⟩
  · rw [don_ne (by omega)] at hh
    obtain ⟨g, h1, h2, h3⟩ := h.b19 hh
    exact ⟨g, by rw [upd_ne (by omega)]; exact h1, h2, heap_setCell_at h3 (by omega)⟩
  · exact ⟨by simp [don, h7], by simp [don, h16], by simp [don, h12], by simp [don, h20]⟩

theorem StI.no (h : StI p S vf w) (hh : S 7 = false ∨ S 16 = false ∨ S 12 = false ∨ S 20 = false) : S 22 = false ∧ S 24 = false := by
  have key : ∀ b, (S 22 = true ∨ S 24 = true) → b = true → False := fun _ h' _ => by
    obtain ⟨h1, h2, h3, h4⟩ := h.ord h'
    rcases hh with hh | hh | hh | hh <;> simp_all
  constructor
  · cases e : S 22 with
    | false => rfl
    | true => exact (key _ (.inl e) e).elim
  · cases e : S 24 with
    | false => rfl
    | true => exact (key _ (.inr e) e).elim
theorem StI.dueCells (hk : StK p) (h : StI p S vf w) : w.cell? ⟨p.D, 0, none⟩ = some (.int .i64 p.f) ∧ w.cell? ⟨p.D, 1, none⟩ = some (.int .i64 p.t) ∧ w.cell? ⟨p.D, 2, none⟩ = some (.int .i64 p.amt) := by
  have := h.due.trans hk.hDc
  simp [World.cell?, this]
theorem StI.rowF (hk : StK p) (h : StI p S vf w) (h22 : S 22 = false) : w.cell? ⟨p.A, p.f, none⟩ = some (p.V p.f) := by
  obtain ⟨U, hU, hU1, hU2, hU3⟩ := h.row
  rw [hU.cell hk.hf, hU2, h22]; rfl
theorem StI.rowT (hk : StK p) (h : StI p S vf w) (h24 : S 24 = false) : w.cell? ⟨p.A, p.t, none⟩ = some (p.V p.t) := by
  obtain ⟨U, hU, hU1, hU2, hU3⟩ := h.row
  rw [hU.cell hk.ht, hU3, h24]; rfl
theorem StI.rowAny (h : StI p S vf w) {i : Nat} (hi : i < 31) : (∃ u, w.cell? ⟨p.A, i, none⟩ = some u) ∧ w.frozen? ⟨p.A, i, none⟩ = false := by
  obtain ⟨U, hU, hU1, hU2, hU3⟩ := h.row
  exact ⟨⟨_, hU.cell hi⟩, hU.frozen i⟩

theorem own_ne_row {w : World} {A B n : Nat} {v : Value} {l : List Int} {V : Nat → Value} (hrow : w.rowIs A 106 n V) (h : OwI w B v l) {g : Nat} (hg : v.ownBlock = some g) : g ≠ A := by
  rintro rfl
  obtain ⟨c, hc, _⟩ := hrow
  rcases h.2 with ⟨hv, _⟩ | ⟨g', cap', cur, hv, _, hh, _⟩
  · rw [hv] at hg; cases hg
  · rw [hv] at hg; cases hg
    rw [hc] at hh
    simp at hh
theorem ow_of_row {w : World} {H B : Nat} {l : List Int} (h : w.rowIs H 3 l.length (fun j => .int .i64 (l.getD j 0))) (hB : B ≤ H) (hm : l.length ≤ maxLen) : OwI w B (.slice (some ⟨H, 0, none⟩) l.length l.length) l := by
  obtain ⟨c, hc, hsz, hat⟩ := h
  have hfl := flat_len (enc := encI) (k := 1) (fun _ => rfl) l
  rw [Nat.mul_one] at hfl
  refine ⟨by rw [hfl, Nat.mul_one], .inr ⟨H, l.length, c, rfl, hB, hc, Nat.le_refl _, hm, by omega, ?_⟩⟩
  rw [Nat.mul_one, List.take_of_length_le (by simp [hsz])]
  refine List.ext_getElem? fun i => ?_
  by_cases hi : i < l.length
  · have := hat i hi
    rw [Array.getElem?_toList, this]
    have hf := flat_get (enc := encI) (k := 1) (fun _ => rfl) l i 0 hi (by omega)
    rw [Nat.mul_one, Nat.add_zero] at hf
    rw [hf]
    simp [hi]
  · rw [List.getElem?_eq_none (by simp [hsz]; omega), List.getElem?_eq_none (by omega)]
theorem run_index_row (cs : Array Value) (j n c : Nat) (ao : Option Addr) (hj : j < 31) (hv : cs[j]? = some (.slice ao n c)) (w : World) : (Instr.index 106 (.agg cs) (.int .i64 (j : Int))).run Try.prog w = .ok (.slice ao n c) w := by
  simp [Instr.index, go_sem, hj, hv]
theorem leaves_appI {o : Oper} {ρ : Operand → Value} {R : Value → World → Prop} (s x : Operand) (ho : o.op = .call { callee := .builtin .append, args := #[s, x], argTypes := #[22, 22] })
    {W : World} {B g : Nat} {v : Value} {l : List Int} {y : Int} (hs : ρ s = v) (hx : ρ x = .slice (some ⟨g, 0, none⟩) 1 1) (hcell : W.heap[g]? = some (.cells #[.int .i64 y] 3 (0, 0))) (hown : OwI W B v l) (hlen : l.length ≤ 1000000) (hB : B ≤ W.heap.size)
    (h : ∀ v' w', OwI w' B v' (l ++ [y]) → W.grownBy w' v.ownBlock → (v'.ownBlock = v.ownBlock ∨ v'.ownBlock = some W.heap.size) → R v' w') : leaves Try.prog o ρ W R := by
  have hinfo : (Try.prog.info? 3).map (fun i => (i.zero, i.size, i.bytes)) = some (some (.int .i64 0), 1, 8) := by kernel_rfl
  obtain ⟨i, hi, hz0, hz1, hz2⟩ := info_parts hinfo
  obtain ⟨v', w', hr, h2, h3, h4, h5⟩ := run_append_own_at (P := Try.prog) W B 22 o.type 3 i (.int .i64 0) 1 8 Try.underlying22 hi hz0 hz1 hz2 rfl (by omega) v l.length (l.flatMap encI) hown ⟨g, 0, none⟩ 1 1 [.int .i64 y] rfl
    (fun j u hu => by rw [Addr.add_lit, Nat.zero_add]; simp only [World.cell?, hcell]; simpa using hu) (by intro u hu; simp at hu; subst hu; rfl) (by unfold maxLen; omega) (by omega) hB
  unfold leaves execOp
  simp only [ho, resolve, invoke, builtin, Sem.run_bind, Sem.run_pure, Result.andThen_ok, List.map_toArray, List.map_cons, List.map_nil, hs, hx, hr]
  refine h v' w' ?_ h3 h5
  unfold OwI Ow
  rw [List.length_append, List.flatMap_append]
  simpa using h2

/-- At the end. -/
theorem StI.fin (hk : StK p) (h : StI p S vf w) (hall : ∀ i, i < 25 → S i = true) : ∃ U, w.rowIs p.A 106 31 U ∧ Below p.w0.heap.size p.w0 w ∧ (∀ i, i < 31 → OwI w p.w0.heap.size (U i) (p.L i ++ (if i = p.f then [-p.amt] else if i = p.t then [p.amt] else []))) ∧ ∀ i j, i < 31 → j < 31 → i ≠ j → Dj (U i) (U j) := by
  obtain ⟨U, hU, hU1, hU2, hU3⟩ := h.row
  rw [hall 22 (by omega)] at hU2
  rw [hall 24 (by omega)] at hU3
  simp only [if_true] at hU2 hU3
  have hF := h.f1 (hall 12 (by omega))
  have hT := h.t1 (hall 20 (by omega))
  have hd := h.dj (hall 12 (by omega)) (hall 20 (by omega))
  have hlt : ∀ i, i < 31 → ∀ g, (p.V i).ownBlock = some g → g < p.W0.heap.size := fun i hi g hg => (hk.hV i hi g hg).1
  refine ⟨U, hU, h.below, fun i hi => ?_, ?_⟩
  · by_cases e1 : i = p.f
    · subst e1; rw [if_pos rfl, hU2]; exact hF.1
    · rw [if_neg e1]
      by_cases e2 : i = p.t
      · subst e2; rw [if_pos rfl, hU3]; exact hT.1
      · rw [if_neg e2, List.append_nil, hU1 i hi e1 e2]; exact h.oth i hi e1 e2
  · have key : ∀ i, i < 31 → i ≠ p.f → i ≠ p.t → Dj (U p.f) (U i) ∧ Dj (U p.t) (U i) := fun i hi e1 e2 => by
      rw [hU1 i hi e1 e2, hU2, hU3]
      exact ⟨hF.2.notin (hk.hdj _ _ hk.hf hi (Ne.symm e1)) (hlt i hi), hT.2.notin (hk.hdj _ _ hk.ht hi (Ne.symm e2)) (hlt i hi)⟩
    have kft : Dj (U p.f) (U p.t) := by rw [hU2, hU3]; exact hd
    intro i j hi hj hij
    by_cases e1 : i = p.f
    · subst e1
      by_cases e2 : j = p.t
      · subst e2; exact kft
      · exact (key j hj (Ne.symm hij) e2).1
    · by_cases e2 : i = p.t
      · subst e2
        by_cases e3 : j = p.f
        · subst e3; exact kft.symm
        · exact (key j hj e3 (Ne.symm hij)).2
      · by_cases e3 : j = p.f
        · subst e3; exact (key i hi e1 e2).1.symm
        · by_cases e4 : j = p.t
          · subst e4; exact (key i hi e1 e2).2.symm
          · rw [hU1 i hi e1 e2, hU1 j hj e3 e4]; exact hk.hdj i j hi hj hij
end Go.Proofs.Ytiidekolohphnaa
