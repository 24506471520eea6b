/- netBegun -/
import Derived.Test.YtiidekolohphnaaPairsM
import Derived.Test.YtiidekolohphnaaRing
namespace Go.Proofs.Ytiidekolohphnaa
open Go.RowKit

theorem ringS_cells : ringS[0]? = some (-1) ∧ ringS[1]? = some (-1) ∧ ringS[2]? = some 2 := by decide +kernel
theorem SlI.cellAt {w : World} {ao : Option Addr} {l : List Int} (h : SlI w ao l) : ∃ b off, ∀ k x, l[k]? = some x → ao = some ⟨b, off, none⟩ ∧ w.cell? ⟨b, off + k, none⟩ = some (.int .i64 x) := by
  by_cases h0 : 0 < l.length
  · obtain ⟨b, off, rfl, _⟩ := h h0
    refine ⟨b, off, fun k x hx => ⟨rfl, ?_⟩⟩
    obtain ⟨hk, rfl⟩ := List.getElem?_eq_some_iff.1 hx
    obtain ⟨b', off', e, hc⟩ := h.at hk
    cases e
    exact hc w (Below.refl _ _)
  · exact ⟨0, 0, fun k x hx => by have := (List.getElem?_eq_some_iff.1 hx).1; omega⟩

theorem slD_ringP (w : World) : SlD (w.alloc (.cells #[.int .i64 0, .int .i64 1, .int .i64 6, .int .i64 2, .int .i64 0, .int .i64 5, .int .i64 1, .int .i64 2, .int .i64 7] 49)) (some ⟨w.heap.size, 0, none⟩) ringP := slD_new w ringP 49
theorem slD_ringD (w : World) : SlD (w.alloc (.cells #[.int .i64 0, .int .i64 2, .int .i64 1, .int .i64 1, .int .i64 2, .int .i64 1] 49)) (some ⟨w.heap.size, 0, none⟩) ringD := slD_new w ringD 49
theorem slD_one (w : World) : SlD (w.alloc (.cells #[.int .i64 0, .int .i64 0, .int .i64 1] 49)) (some ⟨w.heap.size, 0, none⟩) [⟨0, 0, 1⟩] := slD_new w [⟨0, 0, 1⟩] 49
set_option maxRecDepth 100000 in
set_option maxHeartbeats 1600000 in
theorem netBegun_any (w : World) : Calls Try.prog 34 #[] w fun e w' => e = .returned (.bool true) ∧ Below w.heap.size w w' := by
  have cS : ∀ ao cap W, SlD W ao ringL → Calls Try.prog 28 #[.slice ao 4 cap] W (RetIE ringS 0 W) := fun ao cap W hs => by
    have := netStand_any ao ringL cap W hs (by unfold maxLen; decide)
    rw [ring_S.1, ring_S.2] at this; exact this
  have cP : ∀ ao cap W, SlD W ao ringL → Calls Try.prog 29 #[.slice ao 4 cap] W (RetDE ringP 0 W) := fun ao cap W hs => by
    have := netPairs_any ao ringL cap W hs (by unfold maxLen; decide)
    rw [ring_P.1, ring_P.2] at this; exact this
  have cD : ∀ ao cap W, SlI W ao ringS → Calls Try.prog 30 #[.slice ao 31 cap] W (RetDE ringD 0 W) := fun ao cap W hs => by
    have := netSettle_any ao ringS cap W hs (by unfold maxLen; decide)
    rw [ring_D.1, ring_D.2] at this; exact this
  have cN : ∀ W, Calls Try.prog 30 #[.slice none 0 0] W (RetDE [] 1 W) := fun W => by
    have := netSettle_any none [] 0 W Sl.nil (by unfold maxLen; decide)
    rw [ring_N.1, ring_N.2] at this; exact this
  have cQ : ∀ ao bo cap cap' W, SlD W ao ringP → SlD W bo ringP → Calls Try.prog 27 #[.slice ao 3 cap, .slice bo 3 cap'] W fun e w' => e = .returned (.bool true) ∧ Below W.heap.size W w' := fun ao bo cap cap' W h1 h2 =>
    sameDues_any ao bo ringP ringP cap cap' W h1 h2 (by unfold maxLen; decide)
  have cR : ∀ ao bo cap cap' W, SlD W ao ringD → SlD W bo ringD → Calls Try.prog 27 #[.slice ao 2 cap, .slice bo 2 cap'] W fun e w' => e = .returned (.bool true) ∧ Below W.heap.size W w' := fun ao bo cap cap' W h1 h2 =>
    sameDues_any ao bo ringD ringD cap cap' W h1 h2 (by unfold maxLen; decide)
  have cC : ∀ ao cap W, SlD W ao [⟨0, 0, 1⟩] → Calls Try.prog 35 #[.slice ao 1 cap] W fun e w' => e = .returned (.int .i64 1) ∧ Below W.heap.size W w' := fun ao cap W hs => by
    have := netCheck_any ao [⟨0, 0, 1⟩] cap W hs (by unfold maxLen; decide)
    rw [ring_C] at this; exact this
  have cS := Lib.hid cS
  have cP := Lib.hid cP
  have cD := Lib.hid cD
  have cN := Lib.hid cN
  have cQ := Lib.hid cQ
  have cR := Lib.hid cR
  have cC := Lib.hid cC
  have tok1 : True := trivial
  have tok2 : True := trivial
  have tok3 : True := trivial
  go_enter Try.func34, Try.ntmps34
  go_wp2_with (first
    | (go_at_call 99; have _t := tok1; clear tok1; refine (ring_any _).mono ?_; rintro e w1 ⟨ao1, cap1, rfl, hs1, hB1⟩)
    | (go_at_call 28; refine (cS.out _ _ _ hs1).mono ?_; rintro e w2 ⟨v2, rfl, hO2, hB2⟩; obtain ⟨ao2, cap2, rfl, _, hs2⟩ : ∃ ao cap, v2 = .slice ao 31 cap ∧ 31 ≤ cap ∧ SlI w2 ao ringS := hO2.sl)
    | (go_at_call 99; refine (ring_any _).mono ?_; rintro e w3 ⟨ao3, cap3, rfl, hs3, hB3⟩)
    | (go_at_call 29; refine (cP.out _ _ _ hs3).mono ?_; rintro e w4 ⟨v4, rfl, hO4, hB4⟩; obtain ⟨ao4, cap4, rfl, _, hs4⟩ : ∃ ao cap, v4 = .slice ao 3 cap ∧ 3 ≤ cap ∧ SlD w4 ao ringP := hO4.sl; have hB24 := btr hB3 hB4)
    | (go_at_call 30; have _t := tok2; clear tok2; refine (cD.out _ _ _ (hs2.below hB24)).mono ?_; rintro e w5 ⟨v5, rfl, hO5, hB5⟩; obtain ⟨ao5, cap5, rfl, _, hs5⟩ : ∃ ao cap, v5 = .slice ao 2 cap ∧ 2 ≤ cap ∧ SlD w5 ao ringD := hO5.sl)
    | (go_at_call 30; refine (cN.out _).mono ?_; rintro e w6 ⟨v6, rfl, hO6, hB6⟩; have hB26 := btr (btr hB24 hB5) hB6; have hB46 := btr hB5 hB6; have hs26 := hs2.below hB26; obtain ⟨b, off, hc⟩ := SlI.cellAt hs26; obtain ⟨rfl, c0⟩ := hc _ _ ringS_cells.1; obtain ⟨_, c1⟩ := hc _ _ ringS_cells.2.1; obtain ⟨_, c2⟩ := hc _ _ ringS_cells.2.2; rw [Nat.add_zero] at c0; clear hc)
    | (go_at_call 27; have _t := tok3; clear tok3; refine (cQ.out _ _ _ _ _ (hs4.below (bal hB46 _)) (slD_ringP w6)).mono ?_; rintro e w7 ⟨rfl, hB7⟩; have hB57 := btr (bal hB6 _) hB7; clear hB6; have hB27 := btr (bal hB26 _) hB7)
    | (go_at_call 27; refine (cR.out _ _ _ _ _ (hs5.below (bal hB57 _)) (slD_ringD w7)).mono ?_; rintro e w8 ⟨rfl, hB8⟩; have hB28 := btr (bal hB27 _) hB8)
    | (go_at_call 35; refine (cC.out _ _ _ (slD_one w8)).mono ?_; rintro e w9 ⟨rfl, hB9⟩; have hB29 := btr (bal hB28 _) hB9))
  go_ret
  exact ⟨rfl, btr (btr hB1 hB2) hB29⟩
end Go.Proofs.Ytiidekolohphnaa
