/- net.Stand -/
import Derived.Test.YtiidekolohphnaaNetC
import Derived.Test.YtiidekolohphnaaTotal
import Derived.Test.YtiidekolohphnaaStandI
import Derived.Deep.Cut
import Derived.Deep.CutRange
import Derived.Deep.DeepCutAuto
namespace Go.Proofs.Ytiidekolohphnaa
open Go.RowKit

set_option maxRecDepth 100000 in
set_option maxHeartbeats 1600000 in
theorem netStand_any (ao : Option Addr) (l : List Due) (cap : Nat) (w : World) (hs : SlD w ao l) (hm : l.length ≤ maxLen) :
    Calls Try.prog 28 #[.slice ao l.length cap] w (RetIE (standL l) (standErr l) w) := by
  by_cases h0 : netErr l = 0
  case neg =>
    have hd : (netErr l != 0) = true := by simpa using h0
    go_enter Try.func28, Try.ntmps28
    go_wp2_with (go_at_call 35; refine (netCheck_any _ _ _ _ hs hm).mono ?_; rintro e w1 ⟨rfl, hB1⟩)
    go_ret2
    refine ⟨_, ret_v rfl (by grind [standErr]), ?_, hB1⟩
    rw [show standL l = [] by grind [standL, standErr]]
    exact Ow.nil _ _
  case pos =>
    have hd : (netErr l != 0) = false := by simpa using h0
    obtain ⟨h60, hok⟩ := netErr_ok h0
    have HE : Hid (standErr l = if standOk l 31 then 0 else 8) := by show _ = _; grind [standErr]
    clear h0
    go_enter Try.func28, Try.ntmps28
    go_wp2_with (go_at_call 35; refine (netCheck_any _ _ _ _ hs hm).mono ?_; rintro e w1 ⟨rfl, hB1⟩)
    go_loopw [20] (fun i wr => ∃ k : Nat, k ≤ l.length ∧ i = .int .i64 k ∧ Below w.heap.size w wr ∧ ∃ V : Nat → Value, wr.rowIs w1.heap.size 106 31 V ∧ (∀ j, j < 31 → OwI wr w.heap.size (V j) (dueToL (l.take k) j (-1))) ∧ ∀ j j', j < 31 → j' < 31 → j ≠ j' → Dj (V j) (V j')) (fun i _ => l.length - (intOf i).toNat)
    case atStart =>
      refine ⟨0, Nat.zero_le _, rfl, bal hB1 _, fun _ => .slice none 0 0, World.rowIs_alloc w1 _ _ _ ?_, fun j _ => Ow.nil _ _, fun _ _ _ _ _ => Dj.nil _⟩
      intro i hi
      have hi' : i < 31 := hi
      show (Array.replicate 31 (Value.slice none 0 0))[i]? = _
      simp [hi']
    case round =>
      obtain ⟨k, hk, rfl, hB, V, hrow, hV, hdj⟩ := hrel
      have hrow := Lib.hid hrow
      have hV := Lib.hid hV
      have hdj := Lib.hid hdj
      have hA1 := Lib.hid hB1.size
      by_cases hlt : k < l.length
      · obtain ⟨b, off, rfl, hc⟩ := hs.at hlt
        obtain ⟨c0, c1, c2⟩ := hc _ hB
        obtain ⟨d1, d2, ⟨d3, d3'⟩, d4⟩ := dueErr_ok (hok _ (List.getElem_mem hlt))
        obtain ⟨f, hf⟩ : ∃ f : Nat, l[k].frm = f := ⟨_, (Int.toNat_of_nonneg d1.1).symm⟩
        obtain ⟨t, ht⟩ : ∃ t : Nat, l[k].to = t := ⟨_, (Int.toNat_of_nonneg d2.1).symm⟩
        have hf31 : f < 31 := by omega
        have ht31 : t < 31 := by omega
        have hf31' : ¬ (31 : Int) ≤ f := by omega
        have ht31' : ¬ (31 : Int) ≤ t := by omega
        have hft : f ≠ t := by rw [hf, ht] at d4; omega
        rw [hf] at c0
        rw [ht] at c1
        have hf := Lib.hid hf
        have ht := Lib.hid ht
        have hft := Lib.hid hft
        clear hc d1 d2 d4
        have hk : StK ⟨w, wr.alloc (Obj.cells #[Value.int IntKind.i64 f, Value.int IntKind.i64 t, Value.int IntKind.i64 l[k].amt] 49), w1.heap.size, wr.heap.size, f, t, l[k].amt, V, fun j => dueToL (l.take k) j (-1)⟩ := by
          refine ⟨hf31, ht31, hft.out, ⟨hA1.out, ?_⟩, ⟨hB.size, ?_, ?_⟩, heap_alloc_new wr _, fun i hi g hg => ?_, hdj.out, fun i hi => ?_⟩
          · have := hrow.out.lt; simp; omega
          · simp
          · have := hrow.out.lt; dsimp only; omega
          · have h1 := (hV.out i hi).base g hg
            exact ⟨by simp; omega, own_ne_row hrow.out (hV.out i hi) hg, by dsimp only; omega, h1.1⟩
          · have := dueToL_len (l.take k) i (-1)
            rw [List.length_take_of_le hk] at this
            dsimp only; omega
        have hk := Lib.hid hk
        go_wp2_with fail
        have hk := hk.out
        refine wp_region_facts_lit (by kernel_rfl) (by kernel_rfl) (StI ⟨w, wr.alloc (Obj.cells #[Value.int IntKind.i64 f, Value.int IntKind.i64 t, Value.int IntKind.i64 l[k].amt] 49), w1.heap.size, wr.heap.size, f, t, l[k].amt, V, fun j => dueToL (l.take k) j (-1)⟩) ?i0 ?st ?fin
        case i0 =>
          intro vf
          exact ⟨fun _ _ _ h => by (cases h), (bal hB _).drew, Nat.le_refl _, rfl, ⟨V, (hrow.out.alloc _).drew, fun _ _ _ _ => rfl, rfl, rfl⟩, fun i hi _ _ => ((hV.out i hi).alloc _), fun _ => (hV.out f hf31).alloc _, fun h => by (cases h), fun _ => (hV.out t ht31).alloc _, fun h => by (cases h), fun h => by (cases h), fun h => by (cases h), fun h => by (cases h), fun h => by rcases h with h | h <;> cases h⟩
        case st =>
          refine ⟨?_, ?_, ?_, ?_, ?_, ?_, ?_, ?_, ?_, ?_, ?_, ?_, ?_, ?_, ?_, ?_, ?_, ?_, ?_, ?_, ?_, ?_, ?_, ?_, ?_, trivial⟩
          · intro S vf ρ W hS hpre hI hR
            have o7 := hR.old 7 rfl
            exact leaves_same (by dsimp only at *; simp [go_sem, o7]) (hI.const rfl)
          · intro S vf ρ W hS hpre hI hR
            have e24 := (hR.new 0 24 rfl (hpre ⟨0, .data⟩ (by simp) rfl)).trans (hI.con 0 _ rfl (hpre ⟨0, .data⟩ (by simp) rfl))
            have hc := hI.dueCells hk
            obtain ⟨hc0, hc1, hc2⟩ := hc
            exact leaves_same (by dsimp only at *; simp [go_sem, e24, hc0]) (hI.const rfl)
          · intro S vf ρ W hS hpre hI hR
            have o7 := hR.old 7 rfl
            exact leaves_same (by dsimp only at *; simp [go_sem, o7]) (hI.const rfl)
          · intro S vf ρ W hS hpre hI hR
            have e26 := (hR.new 2 26 rfl (hpre ⟨2, .data⟩ (by simp) rfl)).trans (hI.con 2 _ rfl (hpre ⟨2, .data⟩ (by simp) rfl))
            have hc := hI.dueCells hk
            obtain ⟨hc0, hc1, hc2⟩ := hc
            exact leaves_same (by dsimp only at *; simp [go_sem, e26, hc1]) (hI.const rfl)
          · intro S vf ρ W hS hpre hI hR
            have o7 := hR.old 7 rfl
            exact leaves_same (by dsimp only at *; simp [go_sem, o7]) (hI.const rfl)
          · intro S vf ρ W hS hpre hI hR
            have e28 := (hR.new 4 28 rfl (hpre ⟨4, .data⟩ (by simp) rfl)).trans (hI.con 4 _ rfl (hpre ⟨4, .data⟩ (by simp) rfl))
            have hc := hI.dueCells hk
            obtain ⟨hc0, hc1, hc2⟩ := hc
            exact leaves_same (by dsimp only at *; simp [go_sem, e28, hc0]) (hI.const rfl)
          · intro S vf ρ W hS hpre hI hR
            have e29 := (hR.new 5 29 rfl (hpre ⟨5, .data⟩ (by simp) rfl)).trans (hI.con 5 _ rfl (hpre ⟨5, .data⟩ (by simp) rfl))
            have o5 := hR.old 5 rfl
            exact leaves_same (by dsimp only at *; simp [go_sem, e29, o5, hf31']) (hI.const rfl)
          · intro S vf ρ W hS hpre hI hR
            have e30 := (hR.new 6 30 rfl (hpre ⟨6, .data⟩ (by simp) rfl)).trans (hI.con 6 _ rfl (hpre ⟨6, .data⟩ (by simp) rfl))
            have hx := hI.rowF hk (hI.no (.inl hS)).1
            exact leaves_same (by dsimp only at *; simp [go_sem, e30, hx]) (hI.const rfl)
          · intro S vf ρ W hS hpre hI hR
            have o7 := hR.old 7 rfl
            exact leaves_same (by dsimp only at *; simp [go_sem, o7]) (hI.const rfl)
          · intro S vf ρ W hS hpre hI hR
            have e32 := (hR.new 8 32 rfl (hpre ⟨8, .data⟩ (by simp) rfl)).trans (hI.con 8 _ rfl (hpre ⟨8, .data⟩ (by simp) rfl))
            have hc := hI.dueCells hk
            obtain ⟨hc0, hc1, hc2⟩ := hc
            exact leaves_same (by dsimp only at *; simp [go_sem, e32, hc2]) (hI.const rfl)
          · intro S vf ρ W hS hpre hI hR
            have e33 := (hR.new 9 33 rfl (hpre ⟨9, .data⟩ (by simp) rfl)).trans (hI.con 9 _ rfl (hpre ⟨9, .data⟩ (by simp) rfl))
            exact leaves_same (by dsimp only at *; simp [go_sem, e33]; exact IntWalk.i64_in _ (by omega)) (hI.const rfl)
          · intro S vf ρ W hS hpre hI hR
            have e34 := (hR.new 10 34 rfl (hpre ⟨10, .data⟩ (by simp) rfl)).trans (hI.con 10 _ rfl (hpre ⟨10, .data⟩ (by simp) rfl))
            have hb := hI.build11 hk
            unfold leaves; dsimp only at *; simp [go_sem, e34]; exact hb
          · intro S vf ρ W hS hpre hI hR
            have e31 := (hR.new 7 31 rfl (hpre ⟨7, .data⟩ (by simp) rfl)).trans (hI.con 7 _ rfl (hpre ⟨7, .data⟩ (by simp) rfl))
            obtain ⟨g, hg1, hg2, hg3⟩ := hI.b11 (hpre ⟨11, .data⟩ (by simp) rfl)
            have e35 := (hR.new 11 35 rfl (hpre ⟨11, .data⟩ (by simp) rfl)).trans hg1
            have hn := hI.no (.inr (.inr (.inl hS)))
            have hL := hk.hL _ hk.hf
            exact leaves_appI (.tmp 31) (.tmp 35) rfl e31 e35 hg3 (hI.f0 hS) (by omega) hI.below.size (fun v' w' h1 h2 h3 => hI.app12 hk hn.1 h1 h2 h3)
          · intro S vf ρ W hS hpre hI hR
            have o7 := hR.old 7 rfl
            exact leaves_same (by dsimp only at *; simp [go_sem, o7]) (hI.const rfl)
          · intro S vf ρ W hS hpre hI hR
            have e37 := (hR.new 13 37 rfl (hpre ⟨13, .data⟩ (by simp) rfl)).trans (hI.con 13 _ rfl (hpre ⟨13, .data⟩ (by simp) rfl))
            have hc := hI.dueCells hk
            obtain ⟨hc0, hc1, hc2⟩ := hc
            exact leaves_same (by dsimp only at *; simp [go_sem, e37, hc1]) (hI.const rfl)
          · intro S vf ρ W hS hpre hI hR
            have e38 := (hR.new 14 38 rfl (hpre ⟨14, .data⟩ (by simp) rfl)).trans (hI.con 14 _ rfl (hpre ⟨14, .data⟩ (by simp) rfl))
            have o5 := hR.old 5 rfl
            exact leaves_same (by dsimp only at *; simp [go_sem, e38, o5, ht31']) (hI.const rfl)
          · intro S vf ρ W hS hpre hI hR
            have e39 := (hR.new 15 39 rfl (hpre ⟨15, .data⟩ (by simp) rfl)).trans (hI.con 15 _ rfl (hpre ⟨15, .data⟩ (by simp) rfl))
            have hx := hI.rowT hk (hI.no (.inr (.inl hS))).2
            exact leaves_same (by dsimp only at *; simp [go_sem, e39, hx]) (hI.const rfl)
          · intro S vf ρ W hS hpre hI hR
            have o7 := hR.old 7 rfl
            exact leaves_same (by dsimp only at *; simp [go_sem, o7]) (hI.const rfl)
          · intro S vf ρ W hS hpre hI hR
            have e41 := (hR.new 17 41 rfl (hpre ⟨17, .data⟩ (by simp) rfl)).trans (hI.con 17 _ rfl (hpre ⟨17, .data⟩ (by simp) rfl))
            have hc := hI.dueCells hk
            obtain ⟨hc0, hc1, hc2⟩ := hc
            exact leaves_same (by dsimp only at *; simp [go_sem, e41, hc2]) (hI.const rfl)
          · intro S vf ρ W hS hpre hI hR
            have e42 := (hR.new 18 42 rfl (hpre ⟨18, .data⟩ (by simp) rfl)).trans (hI.con 18 _ rfl (hpre ⟨18, .data⟩ (by simp) rfl))
            have hb := hI.build19 hk
            unfold leaves; dsimp only at *; simp [go_sem, e42]; exact hb
          · intro S vf ρ W hS hpre hI hR
            have e40 := (hR.new 16 40 rfl (hpre ⟨16, .data⟩ (by simp) rfl)).trans (hI.con 16 _ rfl (hpre ⟨16, .data⟩ (by simp) rfl))
            obtain ⟨g, hg1, hg2, hg3⟩ := hI.b19 (hpre ⟨19, .data⟩ (by simp) rfl)
            have e43 := (hR.new 19 43 rfl (hpre ⟨19, .data⟩ (by simp) rfl)).trans hg1
            have hn := hI.no (.inr (.inr (.inr hS)))
            have hL := hk.hL _ hk.ht
            exact leaves_appI (.tmp 40) (.tmp 43) rfl e40 e43 hg3 (hI.t0 hS) (by omega) hI.below.size (fun v' w' h1 h2 h3 => hI.app20 hk hn.2 h1 h2 h3)
          · intro S vf ρ W hS hpre hI hR
            have e25 := (hR.new 1 25 rfl (hpre ⟨1, .data⟩ (by simp) rfl)).trans (hI.con 1 _ rfl (hpre ⟨1, .data⟩ (by simp) rfl))
            have o5 := hR.old 5 rfl
            exact leaves_same (by dsimp only at *; simp [go_sem, e25, o5, hf31']) (hI.const rfl)
          · intro S vf ρ W hS hpre hI hR
            have e45 := (hR.new 21 45 rfl (hpre ⟨21, .data⟩ (by simp) rfl)).trans (hI.con 21 _ rfl (hpre ⟨21, .data⟩ (by simp) rfl))
            have h12 := hpre ⟨12, .phase⟩ (by simp) rfl
            have h20 := hpre ⟨20, .chain⟩ (by simp) rfl
            have h7 := hpre ⟨7, .phase⟩ (by simp) rfl
            have h16 := hpre ⟨16, .phase⟩ (by simp) rfl
            have e36 := hR.new 12 36 rfl h12
            obtain ⟨ao, cp, hv, _⟩ := (hI.f1 h12).1.len
            obtain ⟨⟨u, hu⟩, hfz⟩ := hI.rowAny hk.hf
            have hs := hI.store22 hk h12 h7 h16 h20 undef
            rw [hv] at e36 hs
            rw [List.length_append, List.length_singleton] at e36 hs
            unfold leaves; dsimp only at *; simp [go_sem, e45, e36, hu, hfz]; exact hs
          · intro S vf ρ W hS hpre hI hR
            have e27 := (hR.new 3 27 rfl (hpre ⟨3, .data⟩ (by simp) rfl)).trans (hI.con 3 _ rfl (hpre ⟨3, .data⟩ (by simp) rfl))
            have o5 := hR.old 5 rfl
            exact leaves_same (by dsimp only at *; simp [go_sem, e27, o5, ht31']) (hI.const rfl)
          · intro S vf ρ W hS hpre hI hR
            have e46 := (hR.new 23 46 rfl (hpre ⟨23, .data⟩ (by simp) rfl)).trans (hI.con 23 _ rfl (hpre ⟨23, .data⟩ (by simp) rfl))
            have h12 := hpre ⟨12, .phase⟩ (by simp) rfl
            have h20 := hpre ⟨20, .phase⟩ (by simp) rfl
            have h7 := hpre ⟨7, .phase⟩ (by simp) rfl
            have h16 := hpre ⟨16, .phase⟩ (by simp) rfl
            have e44 := hR.new 20 44 rfl h20
            obtain ⟨ao, cp, hv, _⟩ := (hI.t1 h20).1.len
            obtain ⟨⟨u, hu⟩, hfz⟩ := hI.rowAny hk.ht
            have hs := hI.store24 hk h20 h7 h16 h12 undef
            rw [hv] at e44 hs
            rw [List.length_append, List.length_singleton] at e44 hs
            unfold leaves; dsimp only at *; simp [go_sem, e46, e44, hu, hfz]; exact hs
        case fin =>
          intro S vf w' hall hI
          obtain ⟨U, hU1, hU2, hU3, hU4⟩ := hI.fin hk hall
          clear hI hk
          simp only [putsF, Act.put, List.setIfInBounds_toArray, List.set_cons_succ, List.set_cons_zero, Nat.reduceAdd, Exit.inBlock]
          go_wp2_with fail
          go_roundw
          case rel =>
            refine ⟨k + 1, by omega, by go_num, hU2, U, hU1, fun j hj => (hU3 j hj).cast ?_, hU4⟩
            dsimp only
            rw [dueToL_snoc hlt, List.append_assoc]
            congr 1
            have h1 := hf.out; have h2 := ht.out; have h3 := hft.out
            unfold due1 due2
            rw [h1, h2]
            go_light
            grind
          case measure => simp [intOf]; omega
      · obtain rfl : l.length = k := by omega
        rw [List.take_length] at hV
        obtain ⟨cs, hcs, hcz, hca⟩ := hrow.out
        have hcs := Lib.hid hcs
        have hca := Lib.hid hca
        have hcz' : (Try.prog.info? 106).map (·.size) = some cs.size := by rw [hcz]; kernel_rfl
        have hcz' := Lib.hid hcz'
        have hcz := Lib.hid hcz
        have hmk := run_make_row' (P := Try.prog) 22 3 (.int .i64 0) 8 Try.underlying22 (by kernel_rfl) rfl .i64 .i64 31 (by omega) (by omega)
        simp only [Int.cast_ofNat_Int] at hmk
        go_upto_region 11 with fail
        apply wp_region_lit
        refine wpList_load_row rfl 106 (.tmp 5) rfl w1.heap.size rfl _ cs (0, 0) _ (heap_alloc_lt hcs.out) Try.underlying106 rfl hcz'.out ?_
        simp only [Act.put, List.setIfInBounds_toArray, List.set_cons_succ, List.set_cons_zero]
        go_wp2_with fail
        have hr2 := Lib.hid (World.rowIs_made wr (.int .i64 0) 31 3)
        clear hrow hcs hcz hcz'
        obtain ⟨wq, hwq⟩ : ∃ wq : World, wq = wr := ⟨_, rfl⟩
        subst hwq
        go_loopw [50] (fun i W => ∃ j : Nat, j ≤ 31 ∧ i = .int .i64 j ∧ Below wq.heap.size wq W ∧ W.rowIs wq.heap.size 3 31 (fun m => .int .i64 (if m < j then standAt l m else 0)) ∧ standOk l j = true) (fun i _ => 31 - (intOf i).toNat)
        case atStart => exact ⟨0, by omega, rfl, (Below.refl _ _).alloc (Nat.le_refl _) _, by simpa using hr2.out, rfl⟩
        case round =>
          obtain ⟨j, hj, rfl, hBx, hrx, hK⟩ := hrel
          have hK := Lib.hid hK
          by_cases hlt : j < 31
          · obtain ⟨aj, cj, hVj, hcj, hsj⟩ := (hV j hlt).sl
            have hsx := hsj.below hBx
            have hidx := run_index_row cs j _ cj aj hlt ((hca.out j hlt).trans (congrArg some hVj))
            have hok3 := Lib.hid (dueToL_ok hok j (-1))
            have hln := dueToL_len l j (-1)
            have hVj := Lib.hid hVj
            have hcell := hrx.cell hlt
            have hfz := hrx.frozen j
            have hrx := Lib.hid hrx
            go_wp2_with (go_at_call 88; refine (total_any _ (dueToL l j (-1)) _ _ hsx (by omega) hok3.out).mono ?_; rintro e w' ⟨rfl, rfl⟩)
            · have hf : standOk l 31 = false := standOk_mono hlt (by rw [standAt, ← totB_eq]; go_light; grind)
              go_ret2
              refine ⟨_, ret_v rfl (by rw [HE.out, hf]; rfl), ?_, hB.trans (hBx.mono hB.size)⟩
              rw [show standL l = [] by have h1 := HE.out; grind [standL]]
              exact Ow.nil _ _
            · have ht : totB (dueToL l j (-1)) = true := by go_light; grind
              have ha : amtOk (standAt l j) = true := by rw [standAt, ← totB_eq]; exact ht
              have hv : totV (dueToL l j (-1)) = standAt l j := totV_eq _ ha
              go_roundw
              case rel =>
                refine ⟨j + 1, by omega, by go_num, hBx.setCell (by exact Nat.le_refl _) _, ?_, by rw [standOk_succ, hK.out, ha]; rfl⟩
                refine (hrx.out.set j _).congr fun m hm => ?_
                by_cases e : m = j
                · subst e; rw [if_pos rfl, if_pos (by omega), hv]
                · rw [if_neg e]
                  by_cases e2 : m < j
                  · rw [if_pos e2, if_pos (by omega)]
                  · rw [if_neg e2, if_neg (by omega)]
              case measure => simp [intOf]; omega
          · obtain rfl : j = 31 := by omega
            have hs0 : standErr l = 0 := by rw [HE.out, hK.out]; rfl
            have hsl : standL l = (List.range 31).map (standAt l) := by rw [standL, if_pos hs0]
            have hrx := Lib.hid hrx
            have hs0 := Lib.hid hs0
            have hsl := Lib.hid hsl
            go_wp2_with fail
            go_ret2
            refine ⟨_, ret_v rfl hs0.out.symm, ?_, hB.trans (hBx.mono hB.size)⟩
            rw [hsl.out]
            have hl31 : ((List.range 31).map (standAt l)).length = 31 := by simp
            have hrow31 : wr.rowIs wq.heap.size 3 ((List.range 31).map (standAt l)).length (fun j => .int .i64 (((List.range 31).map (standAt l)).getD j 0)) := by
              rw [hl31]
              refine hrx.out.congr fun m hm => ?_
              rw [if_pos hm]
              simp [List.getD, hm]
            have ho := ow_of_row (B := w.heap.size) hrow31 hB.size (by rw [hl31]; unfold maxLen; omega)
            rw [hl31] at ho
            exact ho
end Go.Proofs.Ytiidekolohphnaa
