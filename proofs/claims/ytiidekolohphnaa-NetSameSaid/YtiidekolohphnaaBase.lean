/- Shared words: slices of numbers and of structs as lists, the program's few closed facts. -/
import Derived.Test.YtiidekolohphnaaChecked
import Derived.WalkKit
import Derived.WalkSpells
import Derived.WalkLawsBesides
import Derived.Lib.Hide
import Derived.Maps.AppendAt
import Derived.Deep.Light
import Derived.Deep.QuietTactic
import Derived.BigQuiet
namespace Go.Proofs.Ytiidekolohphnaa
open Go.RowKit

theorem peekW {a b c d e} {w : World} (h : w = w → wpList a b c d e w) : wpList a b c d e w := h rfl
theorem drew2 {a b c d e} {w : World} {o : Obj} (h : wpList a b c d e (w.drew.drew.alloc o)) : wpList a b c d e (w.alloc o).drew.drew := h
theorem bal {a w : World} (h : Below a.heap.size a w) (o : Obj) : Below a.heap.size a (w.alloc o) := h.alloc h.size o
theorem btr {a w w2 : World} (h : Below a.heap.size a w) (h2 : Below w.heap.size w w2) : Below a.heap.size a w2 := h.trans (h2.mono h.size)
theorem bdn {a w : World} (h : Below a.heap.size a w) (n : Nat) : Below a.heap.size a (w.drewN n) := ⟨h.os, h.tape, h.output, h.size, h.block⟩

/-- A slice (its address) reads as a list, each element `enc x` of `k` cells. -/
def Sl {α : Type} (enc : α → List Value) (k : Nat) (w : World) (ao : Option Addr) (l : List α) : Prop :=
  0 < l.length → ∃ b off, ao = some ⟨b, off, none⟩ ∧ b < w.heap.size ∧
    ∀ i (h : i < l.length) j v, (enc l[i])[j]? = some v → w.cell? ⟨b, off + i * k + j, none⟩ = some v

theorem Sl.below {α : Type} {enc : α → List Value} {k : Nat} {w w' : World} {ao : Option Addr} {l : List α} (h : Sl enc k w ao l) (hb : Below w.heap.size w w') : Sl enc k w' ao l := by
  intro h0
  obtain ⟨b, off, rfl, hlt, hc⟩ := h h0
  exact ⟨b, off, rfl, Nat.lt_of_lt_of_le hlt hb.size, fun i hi j v hv => (hb.cell (p := ⟨b, off + i * k + j, none⟩) hlt).trans (hc i hi j v hv)⟩

theorem Sl.nil {α : Type} {enc : α → List Value} {k : Nat} {w : World} {ao : Option Addr} : Sl enc k w ao ([] : List α) := fun h => absurd h (by simp)

abbrev encI : Int → List Value := fun n => [.int .i64 n]
abbrev SlI := Sl encI 1

structure Due where
  frm : Int
  to : Int
  amt : Int
deriving DecidableEq, Repr
abbrev encD : Due → List Value := fun d => [.int .i64 d.frm, .int .i64 d.to, .int .i64 d.amt]
abbrev SlD := Sl encD 3

/-- An element of a slice of numbers, in any later world. -/
theorem SlI.at {w : World} {ao : Option Addr} {l : List Int} (h : SlI w ao l) {k : Nat} (hk : k < l.length) :
    ∃ b off, ao = some ⟨b, off, none⟩ ∧ ∀ w', Below w.heap.size w w' → w'.cell? ⟨b, off + k, none⟩ = some (.int .i64 l[k]) := by
  obtain ⟨b, off, rfl, hlt, hc⟩ := h (by omega)
  refine ⟨b, off, rfl, fun w' hB => ?_⟩
  have := hc k hk 0 _ rfl
  rw [Nat.mul_one] at this
  exact (hB.cell (p := ⟨b, off + k, none⟩) hlt).trans this

theorem SlI.tail {w : World} {b off : Nat} {x : Int} {l : List Int} {cap : Nat} (h : SlI w (some ⟨b, off, none⟩) (x :: l)) (hcap : l.length + 1 ≤ cap) : SlI w (if cap = 1 then some ⟨b, off, none⟩ else some ⟨b, off + 1, none⟩) l := by
  intro h0
  obtain ⟨b', off', heq, hlt, hc⟩ := h (by simp)
  cases heq
  rw [if_neg (by omega)]
  refine ⟨b, off + 1, rfl, hlt, fun i hi j v hv => ?_⟩
  have := hc (i + 1) (by simpa using hi) j v (by simpa using hv)
  rw [show off + 1 + i * 1 + j = off + (i + 1) * 1 + j by omega]
  exact this
theorem SlI.head {w : World} {ao : Option Addr} {x : Int} {l : List Int} (h : SlI w ao (x :: l)) : ∃ b off, ao = some ⟨b, off, none⟩ ∧ w.cell? ⟨b, off, none⟩ = some (.int .i64 x) := by
  obtain ⟨b, off, rfl, hc⟩ := h.at (k := 0) (by simp)
  exact ⟨b, off, rfl, by simpa using hc w (Below.refl _ _)⟩
theorem SlD.at {w : World} {ao : Option Addr} {l : List Due} (h : SlD w ao l) {k : Nat} (hk : k < l.length) :
    ∃ b off, ao = some ⟨b, off, none⟩ ∧ ∀ w', Below w.heap.size w w' →
      w'.cell? ⟨b, off + k * 3, none⟩ = some (.int .i64 l[k].frm) ∧ w'.cell? ⟨b, off + k * 3 + 1, none⟩ = some (.int .i64 l[k].to) ∧ w'.cell? ⟨b, off + k * 3 + 2, none⟩ = some (.int .i64 l[k].amt) := by
  obtain ⟨b, off, rfl, hlt, hc⟩ := h (by omega)
  refine ⟨b, off, rfl, fun w' hB => ⟨?_, ?_, ?_⟩⟩
  · exact (hB.cell (p := ⟨b, off + k * 3, none⟩) hlt).trans (hc k hk 0 _ rfl)
  · exact (hB.cell (p := ⟨b, off + k * 3 + 1, none⟩) hlt).trans (hc k hk 1 _ rfl)
  · exact (hB.cell (p := ⟨b, off + k * 3 + 2, none⟩) hlt).trans (hc k hk 2 _ rfl)

/-- A slice of the call's own (its block from B on) holds the list. -/
def Ow {α : Type} (enc : α → List Value) (e k : Nat) (w : World) (B : Nat) (v : Value) (l : List α) : Prop := w.ownsRow B e k v l.length (l.flatMap enc)

section
variable {α : Type} {enc : α → List Value} {e k : Nat} {w w' : World} {B : Nat} {v : Value} {l : List α}
theorem Ow.nil (w : World) (B : Nat) : Ow enc e k w B (.slice none 0 0) ([] : List α) := World.ownsRow_nil _ _ _ _
theorem Ow.cast {l' : List α} (h : Ow enc e k w B v l) (hl : l = l') : Ow enc e k w B v l' := hl ▸ h
theorem Ow.alloc (h : Ow enc e k w B v l) (o : Obj) : Ow enc e k (w.alloc o) B v l := World.ownsRow.alloc h o
theorem Ow.drewN (h : Ow enc e k w B v l) (n : Nat) : Ow enc e k (w.drewN n) B v l := h
/-- What is owned stays owned where only older blocks, or later ones, may have turned. -/
theorem Ow.kept {row : Option Nat} (h : Ow enc e k w B v l) (hg : w.grownBy w' row) (hne : v.ownBlock = none ∨ v.ownBlock ≠ row) : Ow enc e k w' B v l := World.ownsRow.kept h hg hne
theorem Ow.below (h : Ow enc e k w B v l) (hb : Below w.heap.size w w') : Ow enc e k w' B v l :=
  h.kept (row := none) ⟨hb.os, hb.tape, hb.output, hb.size, fun i hi _ => hb.block i hi⟩ (by cases v.ownBlock <;> simp)
theorem Ow.len (h : Ow enc e k w B v l) : ∃ ao cap, v = .slice ao l.length cap ∧ l.length ≤ cap := by
  rcases h.2 with ⟨rfl, hn⟩ | ⟨g, cap, cur, rfl, _, _, hl, _⟩
  · exact ⟨none, 0, by rw [hn], by omega⟩
  · exact ⟨_, _, rfl, hl⟩
theorem flat_get (henc : ∀ x, (enc x).length = k) : ∀ (l : List α) (i j : Nat) (hi : i < l.length), j < k → (l.flatMap enc)[i * k + j]? = (enc l[i])[j]?
  | x :: l, 0, j, _, hj => by simp [List.getElem?_append, henc, hj]
  | x :: l, i + 1, j, hi, hj => by
    have := flat_get henc l i j (by simpa using hi) hj
    have e : (i + 1) * k + j = k + (i * k + j) := by rw [Nat.succ_mul]; omega
    simp only [List.flatMap_cons, List.getElem_cons_succ]
    rw [List.getElem?_append_right (by rw [henc, e]; omega), henc, e, Nat.add_sub_cancel_left, this]
/-- An owned slice reads as its list. -/
theorem Ow.sl (henc : ∀ x, (enc x).length = k) (h : Ow enc e k w B v l) : ∃ ao cap, v = .slice ao l.length cap ∧ l.length ≤ cap ∧ Sl enc k w ao l := by
  have h' := h
  obtain ⟨hl, h⟩ := h
  rcases h with ⟨rfl, hn⟩ | ⟨g, cap, cur, rfl, hb, hg, hcap, hm, hsz, htk⟩
  · refine ⟨none, 0, by rw [hn], by omega, fun h0 => by omega⟩
  · refine ⟨_, _, rfl, hcap, fun _ => ⟨g, 0, rfl, (Array.getElem?_eq_some_iff.1 hg).1, fun i hi j v hv => ?_⟩⟩
    have hj : j < k := by
      have := (List.getElem?_eq_some_iff.1 hv).1
      rwa [henc] at this
    have hlt : i * k + j < l.length * k := by
      have : (i + 1) * k ≤ l.length * k := Nat.mul_le_mul_right k hi
      rw [Nat.succ_mul] at this; omega
    have := World.ownsRow.cellAt (g := g) (cap := cap) h' (i * k + j) hlt
    rw [show (0 : Nat) + i * k + j = i * k + j by omega, this, flat_get henc l i j hi hj, hv]
theorem Ow.weak {B' : Nat} (h : Ow enc e k w B v l) (hB : B' ≤ B) : Ow enc e k w B' v l :=
  ⟨h.1, h.2.imp id fun ⟨g, cap, cur, h1, h2, h3⟩ => ⟨g, cap, cur, h1, Nat.le_trans hB h2, h3⟩⟩
theorem Ow.base (h : Ow enc e k w B v l) : ∀ g, v.ownBlock = some g → B ≤ g ∧ g < w.heap.size := World.ownsRow.lt h
end

/-- Two owned slices lie in different blocks. -/
def Dj (v u : Value) : Prop := ∀ g, v.ownBlock = some g → u.ownBlock ≠ some g
theorem Dj.nil (u : Value) : Dj (.slice none 0 0) u := fun _ h => by cases h
theorem Dj.nil' (u : Value) : Dj u (.slice none 0 0) := fun _ _ h => by cases h
theorem Dj.symm {v u : Value} (h : Dj v u) : Dj u v := fun g h1 h2 => h g h2 h1
theorem Ow.other {α : Type} {enc : α → List Value} {e k : Nat} {w w' : World} {B : Nat} {v u : Value} {l : List α} (h : Ow enc e k w B u l) (hd : Dj v u) (hg : w.grownBy w' v.ownBlock) : Ow enc e k w' B u l := by
  refine h.kept hg ?_
  cases hu : u.ownBlock with
  | none => exact .inl rfl
  | some g => exact .inr fun e => hd g e.symm hu
theorem Dj.app {α : Type} {enc : α → List Value} {e k : Nat} {w : World} {B : Nat} {v v' u : Value} {l : List α} (hd : Dj v u) (h : Ow enc e k w B u l) (hl : v'.ownBlock = v.ownBlock ∨ ∃ g, v'.ownBlock = some g ∧ w.heap.size ≤ g) : Dj v' u := by
  intro g h1 h2
  rcases hl with hl | ⟨g', hl, hge⟩
  · exact hd g (by rw [← hl, h1]) h2
  · rw [hl] at h1
    cases h1
    have := (h.base _ h2).2
    omega

theorem btg {a w w' : World} {row : Option Nat} (h : Below a.heap.size a w) (hg : w.grownBy w' row) (hr : ∀ k, row = some k → a.heap.size ≤ k) : Below a.heap.size a w' := h.grown hg h.size hr
theorem btv {α : Type} {enc : α → List Value} {e k : Nat} {v : Value} {l : List α} {a w w' : World} (h : Below a.heap.size a w) (ho : Ow enc e k w a.heap.size v l) (hg : w.grownBy w' v.ownBlock) : Below a.heap.size a w' := h.grown hg h.size fun k hk => (ho.base k hk).1

/-- append of ONE element onto a slice of the call's own. -/
theorem wpList_app1 {P : Program} {α : Type} {enc : α → List Value} {e k t bytes : Nat} {z : Value} (henc : ∀ x, (enc x).length = k) (hone : ∀ x, ∀ u ∈ enc x, u.oneCell' = true)
    (hinfo : (P.info? e).map (fun i => (i.zero, i.size, i.bytes)) = some (some z, k, bytes)) (ht : P.underlying t = some (.slice e)) (hzs : z.cells.size = k) (hk : 0 < k) (hby : bytes ≤ 128)
    {ops : Array Oper} {rest : List Oper} {o : Oper} {a : Act} {Q : Exit → Act → World → Prop} (hgd : o.guard = none) (s x : Operand)
    (ho : o.op = .call { callee := .builtin .append, args := #[s, x], argTypes := #[t, t] })
    (W : World) (B : Nat) (v : Value) (l : List α) (y : α) (hs : a.eval s = v) (hx : a.eval x = .slice (some ⟨W.heap.size, 0, none⟩) 1 1) (hown : Ow enc e k W B v l) (hlen : l.length ≤ 1000000) (hB : B ≤ W.heap.size)
    (h : ∀ v' w', Ow enc e k w' B v' (l ++ [y]) → W.grownBy w' v.ownBlock → (v'.ownBlock = v.ownBlock ∨ ∃ g, v'.ownBlock = some g ∧ W.heap.size ≤ g) → wpList P ops Q rest (a.put o.dst v') w') :
    wpList P ops Q (o :: rest) a (W.alloc (.cells (enc y).toArray e)) := by
  obtain ⟨i, hi, hz0, hz1, hz2⟩ := info_parts hinfo
  have hb : (l.length + 1) * bytes ≤ 140737488355328 := by
    have : (l.length + 1) * bytes ≤ (l.length + 1) * 128 := Nat.mul_le_mul_left _ hby
    omega
  refine wpList_append_own_at _ hgd s x t ho B e i z k bytes ht hi hz0 hz1 hz2 hzs hk v l.length (l.flatMap enc) hs (hown.alloc _) ⟨W.heap.size, 0, none⟩ 1 1 (enc y) hx (by rw [henc, Nat.one_mul]) (fun j u hu => ?_) (hone y) (by unfold maxLen; omega) hb (by simp; omega) (fun v' w' h1 h2 _ h3 => h v' w' ?_ ((World.grownBy_alloc W _ _).trans h2) ?_)
  · rw [Addr.add_lit, Nat.zero_add]
    rw [World.cell?_alloc_at _ _ _ _ rfl]
    simpa using hu
  · unfold Ow
    rw [List.length_append, List.flatMap_append]
    simpa using h1
  · rcases h3 with h3 | h3
    · exact .inl h3
    · exact .inr ⟨_, h3, by simp⟩

theorem flat_len {α : Type} {enc : α → List Value} {k : Nat} (henc : ∀ x, (enc x).length = k) : ∀ l : List α, (l.flatMap enc).length = l.length * k
  | [] => by simp
  | x :: l => by rw [List.flatMap_cons, List.length_append, henc, flat_len henc l, List.length_cons, Nat.succ_mul]; omega
/-- append of a whole slice (not empty) onto a slice of the call's own. -/
theorem wpList_apps {P : Program} {α : Type} {enc : α → List Value} {e k t bytes : Nat} {z : Value} (henc : ∀ x, (enc x).length = k) (hone : ∀ x, ∀ u ∈ enc x, u.oneCell' = true)
    (hinfo : (P.info? e).map (fun i => (i.zero, i.size, i.bytes)) = some (some z, k, bytes)) (ht : P.underlying t = some (.slice e)) (hzs : z.cells.size = k) (hk : 0 < k) (hby : bytes ≤ 128)
    {ops : Array Oper} {rest : List Oper} {o : Oper} {a : Act} {Q : Exit → Act → World → Prop} (hgd : o.guard = none) (s x : Operand)
    (ho : o.op = .call { callee := .builtin .append, args := #[s, x], argTypes := #[t, t] })
    (W : World) (B : Nat) (v : Value) (l l2 : List α) (ao : Option Addr) (cap : Nat) (hs : a.eval s = v) (hx : a.eval x = .slice ao l2.length cap) (hown : Ow enc e k W B v l) (hsrc : Sl enc k W ao l2) (h1 : 1 ≤ l2.length) (hlen : l.length + l2.length ≤ 1000000) (hB : B ≤ W.heap.size)
    (h : ∀ v' w', Ow enc e k w' B v' (l ++ l2) → W.grownBy w' v.ownBlock → (v'.ownBlock = v.ownBlock ∨ ∃ g, v'.ownBlock = some g ∧ W.heap.size ≤ g) → wpList P ops Q rest (a.put o.dst v') w') :
    wpList P ops Q (o :: rest) a W := by
  obtain ⟨i, hi, hz0, hz1, hz2⟩ := info_parts hinfo
  obtain ⟨b, off, rfl, hlt, hc⟩ := hsrc h1
  have hb : (l.length + l2.length) * bytes ≤ 140737488355328 := by
    have : (l.length + l2.length) * bytes ≤ (l.length + l2.length) * 128 := Nat.mul_le_mul_left _ hby
    omega
  refine wpList_append_own_at _ hgd s x t ho B e i z k bytes ht hi hz0 hz1 hz2 hzs hk v l.length (l.flatMap enc) hs hown ⟨b, off, none⟩ l2.length cap (l2.flatMap enc) hx (flat_len henc l2) (fun j u hu => ?_) (fun u hu => ?_) (by unfold maxLen; omega) hb hB (fun v' w' h1 h2 _ h3 => h v' w' ?_ h2 ?_)
  · rw [Addr.add_lit]
    have hjl : j < l2.length * k := by
      have := (List.getElem?_eq_some_iff.1 hu).1
      rwa [flat_len henc] at this
    have hdm := Nat.div_add_mod j k
    have hq : j / k < l2.length := Nat.div_lt_of_lt_mul (by rw [Nat.mul_comm]; exact hjl)
    have hr : j % k < k := Nat.mod_lt _ hk
    have hg := flat_get henc l2 (j / k) (j % k) hq hr
    rw [show j / k * k + j % k = j by rw [Nat.mul_comm]; exact hdm, hu] at hg
    have := hc (j / k) hq (j % k) u hg.symm
    rw [show off + j / k * k + j % k = off + j by rw [Nat.add_assoc, show j / k * k + j % k = j by rw [Nat.mul_comm]; exact hdm]] at this
    exact this
  · obtain ⟨x, _, hx⟩ := List.mem_flatMap.1 hu
    exact hone x u hx
  · unfold Ow
    rw [List.length_append, List.flatMap_append]
    exact h1
  · rcases h3 with h3 | h3
    · exact .inl h3
    · exact .inr ⟨_, h3, Nat.le_refl _⟩

abbrev OwI := Ow encI 3 1
abbrev OwD := Ow encD 49 3
theorem OwI.sl {w : World} {B : Nat} {v : Value} {l : List Int} (h : OwI w B v l) : ∃ ao cap, v = .slice ao l.length cap ∧ l.length ≤ cap ∧ SlI w ao l := Ow.sl (enc := encI) (k := 1) (fun _ => rfl) h
theorem OwD.sl {w : World} {B : Nat} {v : Value} {l : List Due} (h : OwD w B v l) : ∃ ao cap, v = .slice ao l.length cap ∧ l.length ≤ cap ∧ SlD w ao l := Ow.sl (enc := encD) (k := 3) (fun _ => rfl) h
theorem flatI (l : List Int) (j : Nat) : (l.flatMap encI)[j]? = (l[j]?).map (Value.int .i64) := by
  by_cases h : j < l.length
  · have := flat_get (enc := encI) (k := 1) (fun _ => rfl) l j 0 h (by omega)
    rw [Nat.mul_one, Nat.add_zero] at this
    rw [this]; simp [h]
  · rw [List.getElem?_eq_none (by rw [flat_len (enc := encI) (k := 1) (fun _ => rfl)]; omega), List.getElem?_eq_none (by omega)]; rfl
theorem OwI.cell {w : World} {B g n c : Nat} {l : List Int} (h : OwI w B (.slice (some ⟨g, 0, none⟩) n c) l) (hn : l.length = n) {j : Nat} {x : Int} (hx : l[j]? = some x) : w.cell? ⟨g, j, none⟩ = some (.int .i64 x) := by
  subst hn
  have hj := (List.getElem?_eq_some_iff.1 hx).1
  rw [World.ownsRow.cellAt h j (by omega), flatI, hx]; rfl
theorem OwI.frz {w : World} {B g n c : Nat} {l : List Int} (h : OwI w B (.slice (some ⟨g, 0, none⟩) n c) l) (hn : l.length = n) (j : Nat) : w.frozen? ⟨g, j, none⟩ = false := by
  subst hn; exact World.ownsRow.frozenAt h j
theorem OwI.store {w : World} {B g n c : Nat} {l : List Int} (h : OwI w B (.slice (some ⟨g, 0, none⟩) n c) l) (hn : l.length = n) (j : Nat) (x : Int) : OwI (w.setCell ⟨g, j, none⟩ (.int .i64 x)) B (.slice (some ⟨g, 0, none⟩) n c) (l.set j x) := by
  subst hn
  have := World.ownsRow.stored h j (.int .i64 x)
  unfold OwI Ow
  rw [List.length_set]
  have e : (l.flatMap encI).set j (.int .i64 x) = (l.set j x).flatMap encI := by
    refine List.ext_getElem? fun i => ?_
    rw [flatI, List.getElem?_set, List.getElem?_set, flatI, flat_len (enc := encI) (k := 1) (fun _ => rfl), Nat.mul_one]
    split
    · split <;> rfl
    · rfl
  rw [← e]
  exact this.1
theorem ow_store' {α : Type} {enc : α → List Value} {e k : Nat} {w : World} {B A : Nat} {v u : Value} {i : Nat} {l : List α} (h : Ow enc e k w B v l) (hA : v.ownBlock ≠ some A) : Ow enc e k (w.setCell ⟨A, i, none⟩ u) B v l := by
  refine h.kept (row := some A) ⟨rfl, rfl, rfl, by simp [World.setCell], fun k hk hne => ?_⟩ (.inr hA)
  rw [Below.heap_setCell _ _ _ _ (fun e => hne (by rw [e]))]
theorem wpList_appI {ops : Array Oper} {rest : List Oper} {o : Oper} {a : Act} {Q : Exit → Act → World → Prop} (hgd : o.guard = none) (s x : Operand)
    (ho : o.op = .call { callee := .builtin .append, args := #[s, x], argTypes := #[22, 22] })
    {W : World} {B : Nat} {v : Value} {l : List Int} {y : Int} (hown : OwI W B v l) (hs : a.eval s = v) (hx : a.eval x = .slice (some ⟨W.heap.size, 0, none⟩) 1 1) (hlen : l.length ≤ 1000000) (hB : B ≤ W.heap.size)
    (h : ∀ v' w', OwI w' B v' (l ++ [y]) → W.grownBy w' v.ownBlock → (v'.ownBlock = v.ownBlock ∨ ∃ g, v'.ownBlock = some g ∧ W.heap.size ≤ g) → wpList Try.prog ops Q rest (a.put o.dst v') w') :
    wpList Try.prog ops Q (o :: rest) a (W.alloc (.cells #[.int .i64 y] 3)) :=
  wpList_app1 (enc := encI) (k := 1) (bytes := 8) (z := .int .i64 0) (fun _ => rfl) (by intro x u hu; simp at hu; subst hu; rfl) (by kernel_rfl) Try.underlying22 rfl (by omega) (by omega) hgd s x ho W B v l y hs hx hown hlen hB h
theorem wpList_appsI {ops : Array Oper} {rest : List Oper} {o : Oper} {a : Act} {Q : Exit → Act → World → Prop} (hgd : o.guard = none) (s x : Operand)
    (ho : o.op = .call { callee := .builtin .append, args := #[s, x], argTypes := #[22, 22] })
    {W : World} {B : Nat} {v : Value} {l l2 : List Int} {ao : Option Addr} {cap : Nat} (hown : OwI W B v l) (hsrc : SlI W ao l2) (hs : a.eval s = v) (hx : a.eval x = .slice ao l2.length cap) (h1 : 1 ≤ l2.length) (hlen : l.length + l2.length ≤ 1000000) (hB : B ≤ W.heap.size)
    (h : ∀ v' w', OwI w' B v' (l ++ l2) → W.grownBy w' v.ownBlock → (v'.ownBlock = v.ownBlock ∨ ∃ g, v'.ownBlock = some g ∧ W.heap.size ≤ g) → wpList Try.prog ops Q rest (a.put o.dst v') w') :
    wpList Try.prog ops Q (o :: rest) a W :=
  wpList_apps (enc := encI) (k := 1) (bytes := 8) (z := .int .i64 0) (fun _ => rfl) (by intro x u hu; simp at hu; subst hu; rfl) (by kernel_rfl) Try.underlying22 rfl (by omega) (by omega) hgd s x ho W B v l l2 ao cap hs hx hown hsrc h1 hlen hB h
/-- '[]T{}' -/
theorem Ow.made {α : Type} {enc : α → List Value} {e k : Nat} (W : World) {B : Nat} (hB : B ≤ W.heap.size) : Ow enc e k (W.alloc (.cells #[] e)) B (.slice (some ⟨W.heap.size, 0, none⟩) 0 0) ([] : List α) :=
  World.ownsRow_made W #[] 0 hB (by unfold maxLen; omega) (by simp)
theorem wpList_appD {ops : Array Oper} {rest : List Oper} {o : Oper} {a : Act} {Q : Exit → Act → World → Prop} (hgd : o.guard = none) (s x : Operand)
    (ho : o.op = .call { callee := .builtin .append, args := #[s, x], argTypes := #[30, 30] })
    {W : World} {B : Nat} {v : Value} {l : List Due} {y1 y2 y3 : Int} (hown : OwD W B v l) (hs : a.eval s = v) (hx : a.eval x = .slice (some ⟨W.heap.size, 0, none⟩) 1 1) (hlen : l.length ≤ 1000000) (hB : B ≤ W.heap.size)
    (h : ∀ v' w', OwD w' B v' (l ++ [⟨y1, y2, y3⟩]) → W.grownBy w' v.ownBlock → (v'.ownBlock = v.ownBlock ∨ ∃ g, v'.ownBlock = some g ∧ W.heap.size ≤ g) → wpList Try.prog ops Q rest (a.put o.dst v') w') :
    wpList Try.prog ops Q (o :: rest) a (W.alloc (.cells #[.int .i64 y1, .int .i64 y2, .int .i64 y3] 49)) :=
  wpList_app1 (enc := encD) (k := 3) (bytes := 24) (z := .agg #[.int .i64 0, .int .i64 0, .int .i64 0]) (y := (⟨y1, y2, y3⟩ : Due)) (fun _ => rfl) (by intro x u hu; simp at hu; rcases hu with rfl | rfl | rfl <;> rfl) (by kernel_rfl) Try.underlying30 rfl (by omega) (by omega) hgd s x ho W B v l hs hx hown hlen hB h

/-- The call hands back a slice of its own, as the list L; what was there is as it was. -/
def RetI (L : List Int) (w : World) (e : Ending) (w' : World) : Prop := ∃ v, e = .returned v ∧ OwI w' w.heap.size v L ∧ Below w.heap.size w w'
def RetIE (L : List Int) (n : Int) (w : World) (e : Ending) (w' : World) : Prop := ∃ v, e = .returned (.tuple #[v, .int .i64 n]) ∧ OwI w' w.heap.size v L ∧ Below w.heap.size w w'
def RetDE (L : List Due) (n : Int) (w : World) (e : Ending) (w' : World) : Prop := ∃ v, e = .returned (.tuple #[v, .int .i64 n]) ∧ OwD w' w.heap.size v L ∧ Below w.heap.size w w'

theorem wrap64_id {n : Int} (h : -9223372036854775808 ≤ n ∧ n ≤ 9223372036854775807) : wrap64 n = n := by unfold wrap64; omega
/-- The length of a slice value: for a loop's measure. -/
def lenOf : Value → Nat | .slice _ n _ => n | _ => 0
theorem take_snoc' {α : Type} {l : List α} {k : Nat} (h : k < l.length) : l.take (k + 1) = l.take k ++ [l[k]] := List.take_succ_eq_append_getElem h
theorem ret_int {k : IntKind} {a b : Int} (h : a = b) : Ending.returned (.int k a) = .returned (.int k b) := by rw [h]
theorem ret_ib {k : IntKind} {a b : Int} {c d : Bool} (h : a = b) (h2 : c = d) : Ending.returned (.tuple #[.int k a, .bool c]) = .returned (.tuple #[.int k b, .bool d]) := by rw [h, h2]
theorem ret_ii {k k' : IntKind} {a b c d : Int} (h : a = b) (h2 : c = d) : Ending.returned (.tuple #[.int k a, .int k' c]) = .returned (.tuple #[.int k b, .int k' d]) := by rw [h, h2]
theorem ret_v {k : IntKind} {a b : Value} {c d : Int} (h : a = b) (h2 : c = d) : Ending.returned (.tuple #[a, .int k c]) = .returned (.tuple #[b, .int k d]) := by rw [h, h2]
theorem ret_bool {a b : Bool} (h : a = b) : Ending.returned (.bool a) = .returned (.bool b) := by rw [h]
end Go.Proofs.Ytiidekolohphnaa
