/- net.Pairs -/
import Derived.Test.YtiidekolohphnaaGroup
import Derived.Test.YtiidekolohphnaaTotal
import Derived.Test.YtiidekolohphnaaPairSort
import Derived.Deep.LoopGhost
import Derived.Deep.RegionHeld3
import Derived.Deep.AppendLies
namespace Go.Proofs.Ytiidekolohphnaa
open Go.RowKit Go.Maps Go.ChangeShapes

/-- append at a step of a region that draws; and what the store behind it will do. -/
theorem step_group {ops : Array Oper} {o : Oper} {a : Act} {K : Act → World → Prop} {Q : Exit → Act → World → Prop} {E : Prop} (hgd : o.guard = none) (s x : Operand)
    (ho : o.op = .call { callee := .builtin .append, args := #[s, x], argTypes := #[22, 22] })
    {W W' : World} {b n : Nat} {D : DataW Unit} {key v : Value} {kl : Lit} {zs : List Int} {y : Int} (hs : a.eval s = v) (hx : a.eval x = .slice (some ⟨W.heap.size, 0, none⟩) 1 1) (hW : W.alloc (.cells #[.int .i64 y] 3) = W')
    (hoi : Oi W b v zs) (hback : W.groupBack Try.prog 107 109 (b + 1) 3 .i64 b n D key kl v) (hlen : zs.length ≤ n) (hn : n ≤ 1000) (hbb : b < W.heap.size) (hy : in64 y)
    (h : ∀ v' w1 w2, (Instr.mapUpdate 107 (.map (some b)) key v').run Try.prog w1 = .ok () w2 → Gs w2 b (n + 1) (D.put kl (rowDatum .i64 v' (zs ++ [y]))) → Oi w1 b v' (zs ++ [y]) → W.grownBy w1 v.ownBlock → w1.grownBy w2 (some b) → K (a.put o.dst v') w1) :
    if Region.wanted o (yielded ops a.tmps) = true then Oper.wp Try.prog o a W' K Q else E := by
  subst hW
  have hinfo : (Try.prog.info? 3).map (fun i => (i.zero, i.size, i.bytes)) = some (some (.int .i64 0), 1, 8) := by kernel_rfl
  obtain ⟨i, hi, hz0, hz1, hz2⟩ := info_parts hinfo
  have hoi2 := hoi.alloc (.cells #[.int .i64 y] 3)
  refine step_append_lies (W.alloc (.cells #[.int .i64 y] 3)) hgd s x 22 ho (b + 1) 3 i (.int .i64 0) 1 8 Try.underlying22 hi hz0 hz1 hz2 rfl (by omega) v zs.length (zs.map (Value.int .i64)) hs hoi2.1 ⟨W.heap.size, 0, none⟩ 1 1 [.int .i64 y] hx rfl (fun j u hu => ?_) (fun u hu => ?_) (by omega) (by unfold maxLen; omega) (by omega) (by simp; omega) _ rfl ?_
  · rw [Addr.add_lit, Nat.zero_add, World.cell?_alloc_at _ _ _ _ rfl]
    simpa using hu
  · simp at hu; subst hu; rfl
  · intro g cap w1 hown hg hat hlt
    have hoi' : Oi w1 b (.slice (some ⟨g, 0, none⟩) (zs.length + 1) cap) (zs ++ [y]) := hoi2.appended hown (by simp [Lit.wf]; exact hy)
    have hgW := (World.grownBy_alloc W (.cells #[.int .i64 y] 3) v.ownBlock).trans hg
    obtain ⟨w2, hr, hG, hg2⟩ := hback w1 _ (zs ++ [y]) hgW hoi' (by simp; omega) (by
      rcases hat with h1 | h1
      · exact .inl h1.symm
      · exact .inr ⟨g, rfl, by rw [h1]; simp⟩)
    exact h _ w1 w2 hr hG hoi' hgW hg2

theorem back_alloc {w : World} {b n : Nat} {D : DataW Unit} {key : Value} {kl : Lit} {v : Value} (h : w.groupBack Try.prog 107 109 (b + 1) 3 .i64 b n D key kl v) (o : Obj) :
    (w.alloc o).drew.groupBack Try.prog 107 109 (b + 1) 3 .i64 b n D key kl v := fun w1 v' zs' hg ho hl hloc =>
  h w1 v' zs' ((World.grownBy_alloc w o _).trans (show (w.alloc o).grownBy w1 _ from ⟨hg.os, hg.tape, hg.output, hg.size, hg.block⟩)) ho hl (hloc.imp id fun ⟨g, h1, h2⟩ => ⟨g, h1, by
    have h3 : (w.alloc o).heap.size ≤ g := h2
    simp at h3; omega⟩)
theorem look_alloc {w : World} {b : Nat} (hb : b < w.heap.size) (o : Obj) : (w.alloc o).heap[b]? = w.heap[b]? := (MapKept.heap_alloc w o).2 b hb |>.trans rfl

def duecells (w : World) (g : Nat) (d : Due) : Prop := w.cell? ⟨g, 0, none⟩ = some (.int .i64 d.frm) ∧ w.cell? ⟨g, 1, none⟩ = some (.int .i64 d.to) ∧ w.cell? ⟨g, 2, none⟩ = some (.int .i64 d.amt)
theorem duecells_new (w : World) (d : Due) : duecells (w.alloc (.cells #[.int .i64 d.frm, .int .i64 d.to, .int .i64 d.amt] 49)).drew w.heap.size d := by
  refine ⟨?_, ?_, ?_⟩ <;> (show (w.alloc _).cell? _ = _; rw [World.cell?_alloc_at _ _ _ _ rfl]; rfl)
theorem duecells.kept {w w1 : World} {g : Nat} {d : Due} {row : Option Nat} (h : duecells w g d) (hg : w.grownBy w1 row) (hlt : g < w.heap.size) (hne : some g ≠ row) : duecells w1 g d := by
  obtain ⟨h1, h2, h3⟩ := h
  exact ⟨(hg.cell_far _ hlt hne).trans h1, (hg.cell_far _ hlt hne).trans h2, (hg.cell_far _ hlt hne).trans h3⟩
theorem duecells.kept1 {w w1 : World} {g : Nat} {d : Due} {v : Value} (h : duecells w g d) (hlt : g < w.heap.size) (hv : ∀ i, v.ownBlock = some i → i < g) (hg : w.grownBy w1 v.ownBlock) : duecells w1 g d :=
  h.kept hg hlt (fun e => by have := hv _ e.symm; omega)
theorem duecells.kept2 {w w1 w2 : World} {g b : Nat} {d : Due} {v : Value} (h : duecells w g d) (hlt : g < w.heap.size) (hv : ∀ i, v.ownBlock = some i → i < g) (hb : b < g) (hg : w.grownBy w1 v.ownBlock) (hg2 : w1.grownBy w2 (some b)) : duecells w2 g d :=
  (h.kept1 hlt hv hg).kept hg2 (Nat.lt_of_lt_of_le hlt hg.size) (fun e => by cases e; omega)

theorem groups_map {w : World} {b n : Nat} {D : DataW Unit} (h : Gs w b n D) : w.ownsMap Try.prog 109 (rowElem w (b + 1) 3 .i64) b n D := by
  obtain ⟨es, clock, hb, F, hs, hD, _⟩ := h
  exact ⟨es, clock, hb, F, hs, hD⟩

/-- Under way over the map: what has come of the keys that were met. -/
def PairInv (l : List Due) (D : DataW Unit) (left : Lit → Bool) (wq wr : World) (v t : Value) : Prop :=
  ∃ (ss : List (Nat × Nat)) (O : List Due) (wide : Bool), t = .bool wide ∧ Below wq.heap.size wq wr ∧ OwD wr wq.heap.size v O ∧ O.length ≤ ss.length ∧ ss.Nodup ∧
    (∀ p ∈ ss, (p.1 < p.2 ∧ p.2 ≤ 30) ∧ ∀ kl, keyOf Try.prog 109 (pairV p.1 p.2) = some kl → left kl = false) ∧
    (∀ p : Nat × Nat, p.1 < p.2 → p.2 ≤ 30 → p ∉ ss → ∀ kl, keyOf Try.prog 109 (pairV p.1 p.2) = some kl → has D kl = true → left kl = true) ∧
    (wide = false → O = ss.flatMap (pOf l) ∧ ∀ p ∈ ss, amtOk (pSum l p.1 p.2) = true) ∧ (wide = true → ∃ p ∈ ss, amtOk (pSum l p.1 p.2) = false)

theorem ss_len {ss : List (Nat × Nat)} (hn : ss.Nodup) (hs : ∀ p ∈ ss, p.1 < p.2 ∧ p.2 ≤ 30) : ss.length ≤ 1000 := by
  have h1 : ss.Perm (allP.filter fun p => decide (p ∈ ss)) := (List.perm_ext_iff_of_nodup hn (allP_nodup.filter _)).2 fun p => by
    rw [List.mem_filter, mem_allP]
    exact ⟨fun h => ⟨hs p h, by simpa using h⟩, fun h => by simpa using h.2⟩
  have h2 := List.length_filter_le (fun p => decide (p ∈ ss)) allP
  rw [← h1.length_eq] at h2
  have h3 : allP.length = 465 := by decide +kernel
  omega
theorem ss_next {D : DataW Unit} {left : Lit → Bool} {ss : List (Nat × Nat)} {a b : Nat} {kl : Lit} (hnd : ss.Nodup)
    (hss : ∀ p ∈ ss, (p.1 < p.2 ∧ p.2 ≤ 30) ∧ ∀ kl, keyOf Try.prog 109 (pairV p.1 p.2) = some kl → left kl = false)
    (hno : ∀ p : Nat × Nat, p.1 < p.2 → p.2 ≤ 30 → p ∉ ss → ∀ kl, keyOf Try.prog 109 (pairV p.1 p.2) = some kl → has D kl = true → left kl = true)
    (hab : a < b ∧ b ≤ 30) (hkey : keyOf Try.prog 109 (pairV a b) = some kl) (hlk : left kl = true) :
    (ss ++ [(a, b)]).Nodup ∧ (∀ p ∈ ss ++ [(a, b)], (p.1 < p.2 ∧ p.2 ≤ 30) ∧ ∀ kl', keyOf Try.prog 109 (pairV p.1 p.2) = some kl' → (left kl' && !kl'.sameKey kl) = false) ∧
      ∀ p : Nat × Nat, p.1 < p.2 → p.2 ≤ 30 → p ∉ ss ++ [(a, b)] → ∀ kl', keyOf Try.prog 109 (pairV p.1 p.2) = some kl' → has D kl' = true → (left kl' && !kl'.sameKey kl) = true := by
  have hnot : (a, b) ∉ ss := fun h => by
    have := (hss _ h).2 kl hkey
    rw [hlk] at this; cases this
  refine ⟨List.nodup_append.2 ⟨hnd, by simp, fun x hx y hy e => ?_⟩, fun p hp => ?_, fun p h1 h2 h3 kl' hk' hh => ?_⟩
  · simp at hy; subst hy; subst e; exact hnot hx
  · rcases List.mem_append.1 hp with hp | hp
    · exact ⟨(hss p hp).1, fun kl' hk' => by rw [(hss p hp).2 kl' hk']; rfl⟩
    · simp at hp; subst hp
      refine ⟨hab, fun kl' hk' => ?_⟩
      rw [hkey] at hk'; cases hk'
      rw [WideAt.sameKey_self (pairLaw.key hkey)]; simp
  · have h4 : p ∉ ss := fun h => h3 (List.mem_append_left _ h)
    rw [hno p h1 h2 h4 kl' hk' hh, sameKey_ne]; rfl
    rintro rfl
    have := pairLaw.inj hk' hkey
    unfold pairV at this
    simp at this
    exact h3 (List.mem_append_right _ (by simp; exact Prod.ext (by omega) (by omega)))
theorem pairs_none {l : List Due} {D : DataW Unit} {left : Lit → Bool} {ss : List (Nat × Nat)} (hD : Grp l D)
    (hno : ∀ p : Nat × Nat, p.1 < p.2 → p.2 ≤ 30 → p ∉ ss → ∀ kl, keyOf Try.prog 109 (pairV p.1 p.2) = some kl → has D kl = true → left kl = true) (hl0 : ∀ kl, left kl = false)
    {p : Nat × Nat} (h1 : p.1 < p.2) (h2 : p.2 ≤ 30) (h3 : p ∉ ss) : dueToL l p.2 p.1 = [] := by
  obtain ⟨kl, hk⟩ := pairKey p.1 p.2 (by unfold in64; omega) (by unfold in64; omega)
  cases hh : has D kl with
  | true => have := hno p h1 h2 h3 kl hk hh; rw [hl0] at this; cases this
  | false => exact (hD.2 _ _ kl hk).2.1 hh (by omega) (by omega)
theorem pairs_all {l : List Due} {D : DataW Unit} {left : Lit → Bool} {ss : List (Nat × Nat)} (hD : Grp l D)
    (hno : ∀ p : Nat × Nat, p.1 < p.2 → p.2 ≤ 30 → p ∉ ss → ∀ kl, keyOf Try.prog 109 (pairV p.1 p.2) = some kl → has D kl = true → left kl = true) (hl0 : ∀ kl, left kl = false)
    (hall : ∀ p ∈ ss, amtOk (pSum l p.1 p.2) = true) : pOk l 31 = true := by
  refine (pOk_iff l).2 fun a b h1 h2 => ?_
  by_cases h3 : (a, b) ∈ ss
  · exact hall _ h3
  · have := pairs_none (p := (a, b)) hD hno hl0 h1 h2 h3
    unfold pSum
    rw [this]; rfl
theorem Oi.ow {w : World} {b : Nat} {v : Value} {zs : List Int} (h : Oi w b v zs) : OwI w (b + 1) v zs := by
  have := h.1
  unfold OwI Ow
  rw [show zs.flatMap encI = zs.map (Value.int .i64) by rw [List.map_eq_flatMap]]
  exact this

set_option maxRecDepth 100000 in
set_option maxHeartbeats 1600000 in
theorem netPairs_any (ao : Option Addr) (l : List Due) (cap : Nat) (w : World) (hs : SlD w ao l) (hm : l.length ≤ maxLen) :
    Calls Try.prog 29 #[.slice ao l.length cap] w (RetDE (pL l) (pErr l) w) := by
  by_cases h0 : netErr l = 0
  case neg =>
    have hd : (netErr l != 0) = true := by simpa using h0
    go_enter Try.func29, Try.ntmps29
    go_wp2_with (go_at_call 35; refine (netCheck_any _ _ _ _ hs hm).mono ?_; rintro e w1 ⟨rfl, hB1⟩)
    go_ret2
    refine ⟨_, ret_v rfl (by grind [pErr]), ?_, hB1⟩
    rw [show pL l = [] by grind [pL, pErr]]
    exact Ow.nil _ _
  case pos =>
    have hd : (netErr l != 0) = false := by simpa using h0
    obtain ⟨h60, hok⟩ := netErr_ok h0
    have HE : Hid (pErr l = if pOk l 31 then 0 else 8) := by show _ = _; grind [pErr]
    clear h0
    have hmm := @run_makeMap Try.prog
    go_enter Try.func29, Try.ntmps29
    go_wp2_with (go_at_call 35; refine (netCheck_any _ _ _ _ hs hm).mono ?_; rintro e w1 ⟨rfl, hB1⟩)
    have hb1 := Lib.hid hB1.size
    go_loopg [7, 22] l.length (fun gl p i wr => ∃ (k : Nat) (D : DataW Unit), k + gl = l.length ∧ i = .int .i64 k ∧ Below w.heap.size w wr ∧ Gs wr w1.heap.size k D ∧ Grp (l.take k) D)
    case atStart => exact ⟨0, .map [], by omega, rfl, bal hB1 _, World.ownsGroups_made w1 _ _ _ _, Grp.nil⟩
    case round =>
      obtain ⟨k, D, hk, rfl, hB, hG, hD⟩ := hrel
      have hD := Lib.hid hD
      by_cases hlt : k < l.length
      · obtain ⟨b, off, rfl, hc⟩ := hs.at hlt
        obtain ⟨c0, c1, c2⟩ := hc _ hB
        obtain ⟨d1, d2, d3, d4⟩ := dueErr_ok (hok _ (List.getElem_mem hlt))
        have hbb : w1.heap.size < wr.heap.size := by
          obtain ⟨es, clock, hb, _⟩ := hG
          exact (Array.getElem?_eq_some_iff.1 hb).1
        clear hc
        by_cases hft : l[k].frm < l[k].to
        · have hft' : decide (l[k].frm < l[k].to) = true := by simpa using hft
          obtain ⟨kl, hkey⟩ := pairKey l[k].frm l[k].to (by unfold in64; omega) (by unfold in64; omega)
          obtain ⟨v, zs, hrun, hat, hoi, hzl, hback⟩ := groups_look hG (by unfold maxLen; omega) hkey
          have hoi2 : Oi (wr.alloc (.cells #[.int .i64 l[k].frm, .int .i64 l[k].to, .int .i64 l[k].amt] 49)).drew w1.heap.size v zs := hoi.alloc _
          have hback2 := Lib.hid (back_alloc hback (.cells #[.int .i64 l[k].frm, .int .i64 l[k].to, .int .i64 l[k].amt] 49))
          have hlk1 := hrun ((wr.alloc (.cells #[.int .i64 l[k].frm, .int .i64 l[k].to, .int .i64 l[k].amt] 49)).drew) (look_alloc hbb _)
          have hlk2 := hrun (((wr.alloc (.cells #[.int .i64 l[k].frm, .int .i64 l[k].to, .int .i64 l[k].amt] 49)).alloc (.cells #[.int .i64 l[k].amt] 3)).drew) ((look_alloc (by simp; omega) _).trans (look_alloc hbb _))
          have hS0 : duecells (wr.alloc (.cells #[.int .i64 l[k].frm, .int .i64 l[k].to, .int .i64 l[k].amt] 49)).drew wr.heap.size l[k] := duecells_new _ _
          have hvlt := fun g hg => (hoi.1.lt g hg).2
          have hS1 := Lib.hid (fun w1 => duecells.kept1 (w1 := w1) hS0 (by simp [World.drew]) hvlt)
          have hS2 := Lib.hid (fun w1 w2 => duecells.kept2 (w1 := w1) (w2 := w2) hS0 (by simp [World.drew]) hvlt hbb)
          clear hrun hback
          unfold pairV at hlk1 hlk2
          go_wp2_with fail
          go_region_held3 (fun w' => w'.cell? ⟨wr.heap.size, 0, none⟩ = some (.int .i64 l[k].frm) ∧ w'.cell? ⟨wr.heap.size, 1, none⟩ = some (.int .i64 l[k].to) ∧ w'.cell? ⟨wr.heap.size, 2, none⟩ = some (.int .i64 l[k].amt))
            (first | exact hS0 | exact hS2.out _ _ (by assumption) (by assumption) | exact hS1.out _ (by assumption) | go_keep)
            ((refine step_group (by rfl) _ _ (by rfl) (W := (wr.alloc (.cells #[.int .i64 l[k].frm, .int .i64 l[k].to, .int .i64 l[k].amt] 49)).drew) (by rfl) (by first | rfl | (simp [World.drew, Act.eval])) rfl hoi2 hback2.out hzl (by omega) (by simp [World.drew]; omega) (by unfold in64; omega) ?_; intro v' w4 w5 hup hG2 hoi4 hgr1 hgr2; unfold pairV at hup))
          all_goals go_wp2_with fail
          all_goals
            go_roundg (gk - 1)
            case measure => omega
            case rel =>
              refine ⟨k + 1, _, by omega, by go_num, ?_, hG2, ?_⟩
              · exact (btg (row := v.ownBlock) (bal hB (.cells #[.int .i64 l[k].frm, .int .i64 l[k].to, .int .i64 l[k].amt] 49)) ⟨hgr1.os, hgr1.tape, hgr1.output, hgr1.size, hgr1.block⟩ (fun j hj => by have := (hoi.1.lt j hj).1; have := hb1.out; omega)).grown hgr2 (Nat.le_trans hB.size (Nat.le_trans (by simp [World.drew]) hgr1.size)) (fun j hj => by cases hj; exact hb1.out)
              · rw [take_snoc' hlt]; exact hD.out.step (hok _ (List.getElem_mem hlt)) (by omega) (.inl ⟨rfl, rfl, rfl⟩) hkey hat hoi2 hoi4
        · have hft' : decide (l[k].frm < l[k].to) = false := by simpa using hft
          have hwr : IntKind.i64.wrap (-l[k].amt) = -l[k].amt := (IntKind.wrap_i64 _).trans (by omega)
          obtain ⟨kl, hkey⟩ := pairKey l[k].to l[k].frm (by unfold in64; omega) (by unfold in64; omega)
          obtain ⟨v, zs, hrun, hat, hoi, hzl, hback⟩ := groups_look hG (by unfold maxLen; omega) hkey
          have hoi2 : Oi (wr.alloc (.cells #[.int .i64 l[k].frm, .int .i64 l[k].to, .int .i64 l[k].amt] 49)).drew w1.heap.size v zs := hoi.alloc _
          have hback2 := Lib.hid (back_alloc hback (.cells #[.int .i64 l[k].frm, .int .i64 l[k].to, .int .i64 l[k].amt] 49))
          have hlk1 := hrun ((wr.alloc (.cells #[.int .i64 l[k].frm, .int .i64 l[k].to, .int .i64 l[k].amt] 49)).drew) (look_alloc hbb _)
          have hlk2 := hrun (((wr.alloc (.cells #[.int .i64 l[k].frm, .int .i64 l[k].to, .int .i64 l[k].amt] 49)).alloc (.cells #[.int .i64 (-l[k].amt)] 3)).drew) ((look_alloc (by simp; omega) _).trans (look_alloc hbb _))
          have hS0 : duecells (wr.alloc (.cells #[.int .i64 l[k].frm, .int .i64 l[k].to, .int .i64 l[k].amt] 49)).drew wr.heap.size l[k] := duecells_new _ _
          have hvlt := fun g hg => (hoi.1.lt g hg).2
          have hS1 := Lib.hid (fun w1 => duecells.kept1 (w1 := w1) hS0 (by simp [World.drew]) hvlt)
          have hS2 := Lib.hid (fun w1 w2 => duecells.kept2 (w1 := w1) (w2 := w2) hS0 (by simp [World.drew]) hvlt hbb)
          clear hrun hback
          unfold pairV at hlk1 hlk2
          go_wp2_with fail
          go_region_held3 (fun w' => w'.cell? ⟨wr.heap.size, 0, none⟩ = some (.int .i64 l[k].frm) ∧ w'.cell? ⟨wr.heap.size, 1, none⟩ = some (.int .i64 l[k].to) ∧ w'.cell? ⟨wr.heap.size, 2, none⟩ = some (.int .i64 l[k].amt))
            (first | exact hS0 | exact hS2.out _ _ (by assumption) (by assumption) | exact hS1.out _ (by assumption) | go_keep)
            ((refine step_group (by rfl) _ _ (by rfl) (W := (wr.alloc (.cells #[.int .i64 l[k].frm, .int .i64 l[k].to, .int .i64 l[k].amt] 49)).drew) (by rfl) (by first | rfl | (simp [World.drew, Act.eval])) rfl hoi2 hback2.out hzl (by omega) (by simp [World.drew]; omega) (by unfold in64; omega) ?_; intro v' w4 w5 hup hG2 hoi4 hgr1 hgr2; unfold pairV at hup))
          all_goals go_wp2_with fail
          all_goals
            go_roundg (gk - 1)
            case measure => omega
            case rel =>
              refine ⟨k + 1, _, by omega, by go_num, ?_, hG2, ?_⟩
              · exact (btg (row := v.ownBlock) (bal hB (.cells #[.int .i64 l[k].frm, .int .i64 l[k].to, .int .i64 l[k].amt] 49)) ⟨hgr1.os, hgr1.tape, hgr1.output, hgr1.size, hgr1.block⟩ (fun j hj => by have := (hoi.1.lt j hj).1; have := hb1.out; omega)).grown hgr2 (Nat.le_trans hB.size (Nat.le_trans (by simp [World.drew]) hgr1.size)) (fun j hj => by cases hj; exact hb1.out)
              · rw [take_snoc' hlt]; exact hD.out.step (hok _ (List.getElem_mem hlt)) (by omega) (.inr ⟨rfl, rfl, rfl⟩) hkey hat hoi2 hoi4
      · obtain rfl : k = l.length := by omega
        rw [List.take_length] at hD
        have hmap := groups_map hG
        have hbb : w1.heap.size < wr.heap.size := hmap.lt
        obtain ⟨wq, hwq⟩ : ∃ wq : World, wq = wr := ⟨_, rfl⟩
        subst hwq
        go_wp2_with (at_range; refine wpList_range_own _ rfl _ 107 rfl 109 22 pairLaw mapU _ w1.heap.size l.length D rfl hmap ?_; intro w3 hrg3 hg3 hs3)
        go_frame
        go_loopg [8, 9] (Maps.size D) (fun gl v t wr => ∃ (left : Lit → Bool) (cnt : Nat), wr.ranges Try.prog 109 (rowElem wq (w1.heap.size + 1) 3 .i64) w1.heap.size wq.heap.size l.length D left cnt ∧ PairInv l D left wq wr v t ∧ cnt ≤ gl)
        case atStart => exact ⟨_, _, hrg3, ⟨[], [], false, rfl, ⟨hg3.os, hg3.tape, hg3.output, hg3.size, fun i hi => hg3.block i hi (by simp)⟩, Ow.nil _ _, Nat.le_refl _, List.nodup_nil, (fun p hp => by cases hp), (fun p _ _ _ kl _ h => h), (fun _ => ⟨rfl, fun p hp => by cases hp⟩), (fun h => by cases h)⟩, Nat.le_refl _⟩
        case round =>
          clear hrg3 hg3 hs3 hmap
          obtain ⟨left, cnt, hrg, ⟨ss, O, wide, rfl, hB3, hO, hln, hnd, hss, hno, hW0, hW1⟩, hcnt⟩ := hrel
          have hss := Lib.hid hss
          have hno := Lib.hid hno
          have hW0 := Lib.hid hW0
          have hW1 := Lib.hid hW1
          have hlen := ss_len hnd (fun p hp => (hss.out p hp).1)
          have hrgH := Lib.hid hrg
          go_wp2_with (at_next; refine wpList_next_ranges _ rfl _ rfl 109 pairLaw (rowElem wq (w1.heap.size + 1) 3 .i64) (fun p : Int × Int => pairV p.1 p.2) (fun v : Value => v) (fun key kl h => by obtain ⟨a, b, rfl, _⟩ := pairInv h; exact ⟨(a, b), rfl⟩) (fun v y _ => ⟨v, rfl⟩) w1.heap.size wq.heap.size l.length D left cnt rfl hrg ?_ ?_)
          · intro hc0 hl0
            clear hrg
            have hl0 := Lib.hid hl0
            cases wide
            · obtain ⟨rfl, hall⟩ := hW0.out rfl
              have hok31 : pOk l 31 = true := pairs_all hD.out hno.out hl0.out hall
              have hfin := Lib.hid (fun (O' : List Due) (h1 : O'.Perm (ss.flatMap (pOf l))) (h2 : O'.Pairwise fun a b => ¬ ltD b a) => sorted_is (h1.trans (pRaw_perm l ss hnd (fun p hp => (hss.out p hp).1) (fun p h1 h2 h3 => pairs_none hD.out hno.out hl0.out h1 h2 h3))) (pRaw_sorted l 31) h2)
              go_wp2_with (go_at_call 89; refine (sortDue_any _ _ _ _ hO (by omega)).mono ?_; rintro e w' ⟨rfl, O', hp', hs', hO', hg'⟩)
              go_ret2
              have hO'' := hfin.out O' hp' hs'
              subst hO''
              refine ⟨_, ret_v rfl (by rw [HE.out, hok31]; rfl), ?_, btv (btr hB hB3) (hO.weak (by have := hB.size; omega)) hg'⟩
              rw [show pL l = pRaw l 31 by have h1 := HE.out; grind [pL]]
              exact hO'.weak hB.size
            · obtain ⟨p, hp, hbad⟩ := hW1.out rfl
              have hbad := Lib.hid (pOk_bad (hss.out p hp).1.1 (hss.out p hp).1.2 hbad)
              go_wp2_with fail
              go_ret2
              refine ⟨_, ret_v rfl (by rw [HE.out, hbad.out]; rfl), ?_, btr hB hB3⟩
              rw [show pL l = [] by have h1 := HE.out; have := hbad.out; grind [pL]]
              exact Ow.nil _ _
          · intro x1 x2 c kl yd yp w4 cnt2 hkey hlk hv hat hrg2 hlt2 hg2 hs2 hen
            clear hs2 hrg
            obtain ⟨zs, hoz, hyz⟩ := rowElem_inv hv
            obtain ⟨rfl, _⟩ := Prod.mk.inj hyz
            have hat1 := hat .nil
            have hhas := has_true_of_atKey hat
            obtain ⟨g1, _, g3⟩ := hD.out.2 x1 x2 kl hkey
            obtain ⟨v1, v2, v3⟩ := g1 hhas
            obtain ⟨a, rfl⟩ : ∃ a : Nat, x1 = a := ⟨x1.toNat, by omega⟩
            obtain ⟨b, rfl⟩ : ∃ b : Nat, x2 = b := ⟨x2.toNat, by omega⟩
            have hz := g3 v1 v2
            rw [hat1, its_row hoz] at hz
            subst hz
            obtain ⟨ao2, cap2, rfl, _, hsl⟩ := OwI.sl (Oi.ow hoz)
            have hB4 : Below wq.heap.size wq w4 := hB3.grown hg2 hB3.size (fun j hj => by cases hj; exact Nat.le_refl _)
            have hO4 := hO.kept hg2 (.inr (fun e => row_ne_iter hO hrgH.out e.symm))
            have hrg5 := Lib.hid (hrg2.alloc (.cells #[.int .i64 a, .int .i64 b] 109))
            have hO5 := hO4.alloc (.cells #[.int .i64 a, .int .i64 b] 109)
            have hB5 := bal hB4 (.cells #[.int .i64 a, .int .i64 b] 109)
            have hsl5 := hsl.below hB5
            have hok3 := Lib.hid (dueToL_ok hok b a)
            have hln2 := dueToL_len l b a
            have hnx := Lib.hid (ss_next hnd hss.out hno.out ⟨by omega, by omega⟩ hkey hlk)
            have hzH := Lib.hid hbb
            have htot := Lib.hid (show totB (dueToL l b a) = amtOk (pSum l a b) from totB_eq _)
            have htov := Lib.hid (show amtOk (pSum l a b) = true → totV (dueToL l b a) = pSum l a b from fun h => totV_eq _ h)
            clear hat hat1 hhas g1 g3 hv hyz hoz hO hO4 hB3 hrg2 hok hkey hlk
            unfold pairV at hen
            cases hb : totB (dueToL l b a) <;> cases wide
            all_goals go_wp2_with (first
              | (go_at_call 88; refine (total_any _ (dueToL l b a) _ _ hsl5 (by omega) hok3.out).mono ?_; rintro e w' ⟨rfl, rfl⟩)
              | (at_builtin; refine wpList_appD rfl (.tmp 87) (.tmp 94) rfl hO5 rfl (by first | rfl | (simp [Act.eval])) (by first | omega | (simp; omega)) hB5.size ?_; intro v6 w6 hO6 hg6 hl6; have hB6 := btv hB5 hO5 hg6)
              | (at_builtin; refine wpList_appD rfl (.tmp 99) (.tmp 107) rfl hO5 rfl (by first | rfl | (simp [Act.eval])) (by first | omega | (simp; omega)) hB5.size ?_; intro v6 w6 hO6 hg6 hl6; have hB6 := btv hB5 hO5 hg6))
            all_goals
              go_roundg cnt2
              case measure => omega
              case rel =>
                have hbk : some w1.heap.size ≠ u8.ownBlock := fun e => by have := (hO5.base _ e.symm).1; have := hzH.out; omega
                have hl1 : (ss ++ [(a, b)]).length = ss.length + 1 := by simp
                first
                  | refine ⟨_, cnt2, hrg5.out.kept hg6 hbk (row_ne_iter hO5 hrg5.out), ⟨ss ++ [(a, b)], _, _, rfl, hB6, hO6, by rw [hl1, List.length_append]; simp; omega, hnx.out.1, hnx.out.2.1, hnx.out.2.2, ?_, ?_⟩, Nat.le_refl _⟩
                  | refine ⟨_, cnt2, hrg5.out, ⟨ss ++ [(a, b)], O, _, rfl, hB5, hO5, by rw [hl1]; omega, hnx.out.1, hnx.out.2.1, hnx.out.2.2, ?_, ?_⟩, Nat.le_refl _⟩
                · intro hw
                  first
                    | (cases hw; done)
                    | (have hok1 : amtOk (pSum l a b) = true := htot.out ▸ hb
                       have hpo : pOf l (a, b) = pDue a b (totV (dueToL l b a)) := by unfold pOf; rw [htov.out hok1]
                       have hbd := amtOk_b hok1
                       rw [← htov.out hok1] at hbd
                       obtain ⟨o1, o2⟩ := hW0.out (by trivial)
                       refine ⟨?_, fun p hp => ?_⟩
                       · rw [List.flatMap_append, List.flatMap_singleton, hpo, o1]
                         unfold pDue
                         first
                           | (rw [if_pos (by omega)]; done)
                           | (rw [if_neg (by omega), if_pos (by omega)]; done)
                           | (rw [if_neg (by omega), if_pos (by omega), wrap64_id (by go_light; omega)]; done)
                           | (rw [if_neg (by omega), if_neg (by omega), List.append_nil])
                       · rcases List.mem_append.1 hp with hp | hp
                         · exact o2 p hp
                         · simp at hp; subst hp; exact hok1)
                · intro hw
                  first
                    | (cases hw; done)
                    | exact ⟨(a, b), List.mem_append_right _ (List.mem_singleton.2 rfl), htot.out.symm.trans hb⟩
                    | (obtain ⟨p, hp, hq⟩ := hW1.out (by trivial); exact ⟨p, List.mem_append_left _ hp, hq⟩)
end Go.Proofs.Ytiidekolohphnaa
