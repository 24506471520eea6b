/- net.Settle -/
import Derived.Test.YtiidekolohphnaaSlib
import Derived.Test.YtiidekolohphnaaTotal
import Derived.Deep.Cut
import Derived.Deep.LoopGhost
namespace Go.Proofs.Ytiidekolohphnaa
open Go.RowKit

set_option maxRecDepth 100000 in
set_option maxHeartbeats 1600000 in
theorem netSettle_ok (ao : Option Addr) (l : List Int) (cap : Nat) (w : World) (hs : SlI w ao l) (hm : l.length ≤ maxLen) (he : setErr l = 0) :
    Calls Try.prog 30 #[.slice ao l.length cap] w (RetDE (setL l) (setErr l) w) := by
  have hI0 := Lib.hid (setErr_inv he)
  have h31' := hI0.out.len
  have hsum := hI0.out.sum
  have hd : ((l.length : Int) != 31) = false := by simp; omega
  have ha : (amtsErr l != 0) = false := by unfold amtsErr; rw [if_pos (by simpa using hI0.out.ok)]; rfl
  have hok := Lib.hid hI0.out.ok
  have h1000 : l.length ≤ 1000 := by omega
  have hL := Lib.hid (show setL l = settleF 31 l by rw [setL, if_pos he])
  have hT : totB l = true := by rw [totB_eq, hsum]; rfl
  have hV : (totV l != 0) = false := by rw [totV_eq l (by rw [hsum]; rfl), hsum]; rfl
  have h1 : 1 ≤ l.length := by omega
  have h31 := Lib.hid h31'
  have he' := Lib.hid he
  clear h31' he
  clear hsum
  go_enter Try.func30, Try.ntmps30
  go_wp2_with (first
    | (go_at_call 92; refine (moneyChecks_any _ l _ _ hs hm).mono ?_; rintro e w' ⟨rfl, rfl⟩)
    | (go_at_call 88; refine (total_any _ l _ _ hs h1000 hok.out).mono ?_; rintro e w' ⟨rfl, rfl⟩)
    | (go_at_call 93; refine (slClone_any _ l _ _ hs h1000 h1).mono ?_; rintro e w1 ⟨v1, rfl, hO1, hB1⟩))
  obtain ⟨g, c1, rfl⟩ : ∃ g c1, v1 = .slice (some ⟨g, 0, none⟩) 31 c1 := by
    rcases hO1.2 with ⟨rfl, hn⟩ | ⟨g, cp, cur, rfl, _⟩
    · rw [h31.out] at hn; cases hn
    · rw [h31.out]; exact ⟨_, _, rfl⟩
  go_loopg [8] 31 (fun n v wr => ∃ (L : List Int) (O : List Due), Below w.heap.size w wr ∧ OwI wr w.heap.size (.slice (some ⟨g, 0, none⟩) 31 c1) L ∧ OwD wr w.heap.size v O ∧ SInv L ∧ nz L ≤ n ∧ Hid (settleF 31 l = O ++ settleF n L) ∧ Dj (.slice (some ⟨g, 0, none⟩) 31 c1) v ∧ O.length + n ≤ 31)
  case atStart => exact ⟨l, [], hB1, hO1, Ow.nil _ _, hI0.out, by have := nz_le l; have := h31.out; omega, rfl, Dj.nil' _, by simp⟩
  case round =>
    obtain ⟨L, O, hB, hOL, hOO, hI, hnz, hE, hD, hcnt⟩ := hrel
    have hI := Lib.hid hI
    obtain ⟨aL, cL, hvL, _, hsL⟩ := hOL.sl
    rw [hI.out.len] at hvL
    cases hvL
    have cMin := slMin_any (some ⟨g, 0, none⟩) L c1 wr hsL (by rw [hI.out.len]; unfold maxLen; omega) (by rw [hI.out.len]; omega)
    have cMax := slMax_any (some ⟨g, 0, none⟩) L c1 wr hsL (by rw [hI.out.len]; unfold maxLen; omega) (by rw [hI.out.len]; omega)
    have cLo : Calls Try.prog 96 #[.slice (some ⟨g, 0, none⟩) L.length c1, .int .i64 (minL L)] wr fun e w' => e = .returned (.int .i64 (loP L)) ∧ wr = w' := slIndex_any _ L c1 _ wr hsL (by rw [hI.out.len]; unfold maxLen; omega) (minL_spec hI.out.ne).1
    have cHi : Calls Try.prog 96 #[.slice (some ⟨g, 0, none⟩) L.length c1, .int .i64 (maxL L)] wr fun e w' => e = .returned (.int .i64 (hiP L)) ∧ wr = w' := slIndex_any _ L c1 _ wr hsL (by rw [hI.out.len]; unfold maxLen; omega) (maxL_spec hI.out.ne).1
    rw [hI.out.len] at cMin cMax cLo cHi
    have cMin := Lib.hid cMin
    have cMax := Lib.hid cMax
    have cLo := Lib.hid cLo
    have cHi := Lib.hid cHi
    by_cases h0 : minL L = 0
    · have ht : (minL L == 0) = true := by simpa using h0
      have hE := Lib.hid (hE.out.trans (by rw [settle_zero h0, List.append_nil]))
      clear h0
      go_wp2_with (first
        | (go_at_call 94; refine (cMin.out).mono ?_; rintro e w' ⟨rfl, rfl⟩)
        | (go_at_call 95; refine (cMax.out).mono ?_; rintro e w' ⟨rfl, rfl⟩))
      go_ret2
      refine ⟨_, ret_v rfl he'.out.symm, ?_, hB⟩
      rw [hL.out, hE.out]
      exact hOO
    · have ht : (minL L == 0) = false := by simpa using h0
      obtain ⟨n', rfl⟩ : ∃ n', gk = n' + 1 := by
        cases gk with
        | zero => have := hI.out.nz0 h0; omega
        | succ n' => exact ⟨n', rfl⟩
      have hE := Lib.hid (hE.out.trans (by rw [settleF, if_neg h0]))
      have hst := Lib.hid (hI.out.step h0)
      have hgO : u8.ownBlock ≠ some g := hD g rfl
      obtain ⟨hn1, hn2, hn3⟩ := hI.out.neg h0
      obtain ⟨a1, a2, a3, a4, a5, a6, a7⟩ := amt_min hI.out h0
      have hamt : (if maxL L < -minL L then maxL L else -minL L) = setAmt L := by unfold setAmt; split <;> omega
      obtain ⟨hlo, hloL⟩ := hI.out.lo
      obtain ⟨hhi, hhiL⟩ := hI.out.hi
      have hOL2 := Lib.hid ((Ow.alloc (OwI.store (OwI.store hOL hI.out.len (loP L) (minL L + setAmt L)) (by rw [List.length_set]; exact hI.out.len) (hiP L) (maxL L - setAmt L)) (.cells #[.int .i64 (loP L), .int .i64 (hiP L), .int .i64 (setAmt L)] 49)).drewN 2)
      have hOO2 := Lib.hid ((Ow.alloc (ow_store' (ow_store' hOO hgO (i := loP L) (u := .int .i64 (minL L + setAmt L))) hgO (i := hiP L) (u := .int .i64 (maxL L - setAmt L))) (.cells #[.int .i64 (loP L), .int .i64 (hiP L), .int .i64 (setAmt L)] 49)).drewN 2)
      have hgB := (hOL.base g rfl).1
      have hB2 := Lib.hid (bdn (bal ((hB.setCell (p := ⟨g, loP L, none⟩) hgB (.int .i64 (minL L + setAmt L))).setCell (p := ⟨g, hiP L, none⟩) hgB (.int .i64 (maxL L - setAmt L))) (.cells #[.int .i64 (loP L), .int .i64 (hiP L), .int .i64 (setAmt L)] 49)) 2)
      have hsz := hB2.out.size
      have hDj := hD.symm
      have h0 := Lib.hid h0
      have hn3 := Lib.hid hn3
      clear a5
      have fl := hOL.frz hI.out.len (loP L)
      have fh := hOL.frz hI.out.len (hiP L)
      have hglt : g < wr.heap.size := (hOL.base g rfl).2
      have cl := hOL.cell hI.out.len hloL
      have ch := hOL.cell hI.out.len hhiL
      have hloL := Lib.hid hloL
      have hhiL := Lib.hid hhiL
      go_wp2_with (first
        | (go_at_call 94; refine (cMin.out).mono ?_; rintro e w' ⟨rfl, rfl⟩)
        | (go_at_call 95; refine (cMax.out).mono ?_; rintro e w' ⟨rfl, rfl⟩)
        | (go_at_call 96; refine (cLo.out).mono ?_; clear cLo; rintro e w' ⟨rfl, rfl⟩)
        | (go_at_call 96; refine (cHi.out).mono ?_; clear cHi; rintro e w' ⟨rfl, rfl⟩))
      go_region
      all_goals go_wp2_with fail
      have ch2 : (wr.setCell ⟨g, loP L, none⟩ (.int .i64 (minL L + setAmt L))).cell? ⟨g, hiP L, none⟩ = some (.int .i64 (maxL L)) := by
        rw [World.cell?_setCell_other]
        · exact ch
        · intro e; injection e with _ e; exact hn3.out e
      go_region
      all_goals go_wp2_with (at_builtin; refine drew2 ?_; go_loud (refine wpList_appD (l := O) (B := w.heap.size) rfl (.tmp 69) (.tmp 71) rfl hOO2.out rfl (by simp [World.drew, World.alloc, World.setCell, Act.eval]) (by omega) hsz ?_; intro v5 w5 hO5 hg5 hl5); have hB5 := btv hB2.out hOO2.out hg5; have hL5 := hOL2.out.other hDj hg5)
      go_roundg n'
      case measure => omega
      case rel =>
        refine ⟨setStep L, O ++ [setDue L], hB5, hL5, hO5, hst.out.1, ?_, ?_, ?_, ?_⟩
        · have := hst.out.2; omega
        · show _ = _
          rw [List.append_assoc]; exact hE.out
        · exact (Dj.app hDj hOL2.out hl5).symm
        · simp; omega

set_option maxRecDepth 100000 in
set_option maxHeartbeats 1600000 in
theorem netSettle_any (ao : Option Addr) (l : List Int) (cap : Nat) (w : World) (hs : SlI w ao l) (hm : l.length ≤ maxLen) :
    Calls Try.prog 30 #[.slice ao l.length cap] w (RetDE (setL l) (setErr l) w) := by
  by_cases h31 : l.length = 31
  case neg =>
    have hd : ((l.length : Int) != 31) = true := by simp; omega
    have he : setErr l = 1 := by unfold setErr; rw [if_neg h31]
    go_enter Try.func30, Try.ntmps30
    go_wp2_with fail
    go_ret2
    refine ⟨_, ret_v rfl he.symm, ?_, Below.refl _ _⟩
    rw [show setL l = [] by grind [setL]]
    exact Ow.nil _ _
  case pos =>
  have hd : ((l.length : Int) != 31) = false := by simp; omega
  by_cases hall : l.all amtOk = true
  case neg =>
    have he : setErr l = 3 := by unfold setErr; rw [if_pos h31, if_neg hall]
    have ha : (amtsErr l != 0) = true := by unfold amtsErr; rw [if_neg hall]; rfl
    have ha2 : amtsErr l = 3 := by unfold amtsErr; rw [if_neg hall]
    have he := Lib.hid he
    clear h31 hall
    go_enter Try.func30, Try.ntmps30
    go_wp2_with (go_at_call 92; refine (moneyChecks_any _ l _ _ hs hm).mono ?_; rintro e w' ⟨rfl, rfl⟩)
    go_ret2
    refine ⟨_, ret_v rfl he.out.symm, ?_, Below.refl _ _⟩
    rw [show setL l = [] by have := he.out; grind [setL]]
    exact Ow.nil _ _
  case pos =>
  have ha : (amtsErr l != 0) = false := by unfold amtsErr; rw [if_pos hall]; rfl
  have hok : ∀ n ∈ l, amtOk n = true := by simpa using hall
  have hok := Lib.hid hok
  have h1000 : l.length ≤ 1000 := by omega
  by_cases hsum : l.sum = 0
  case neg =>
    have he : setErr l = 4 := by unfold setErr; rw [if_pos h31, if_pos hall, if_neg hsum]
    have hT : totB l = false ∨ (totB l = true ∧ (totV l != 0) = true) := by
      cases hb : totB l with
      | false => exact .inl rfl
      | true => rw [totB_eq] at hb; exact .inr ⟨rfl, by rw [totV_eq l hb]; simpa using hsum⟩
    have he := Lib.hid he
    clear h31 hall hsum
    rcases hT with hT | ⟨hT, hV⟩
    all_goals
      go_enter Try.func30, Try.ntmps30
      go_wp2_with (first
        | (go_at_call 92; refine (moneyChecks_any _ l _ _ hs hm).mono ?_; rintro e w' ⟨rfl, rfl⟩)
        | (go_at_call 88; refine (total_any _ l _ _ hs h1000 hok.out).mono ?_; rintro e w' ⟨rfl, rfl⟩))
      go_ret2
      refine ⟨_, ret_v rfl he.out.symm, ?_, Below.refl _ _⟩
      rw [show setL l = [] by have := he.out; grind [setL]]
      exact Ow.nil _ _
  case pos =>
    exact netSettle_ok ao l cap w hs hm (by unfold setErr; rw [if_pos h31, if_pos hall, if_pos hsum])
end Go.Proofs.Ytiidekolohphnaa
