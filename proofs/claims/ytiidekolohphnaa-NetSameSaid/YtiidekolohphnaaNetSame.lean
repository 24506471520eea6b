/- NetSame: the walk -/
import Derived.Test.YtiidekolohphnaaSameP
import Derived.Test.YtiidekolohphnaaNetNothing
namespace Go.Proofs.Ytiidekolohphnaa
open Go.RowKit

set_option maxRecDepth 100000 in
set_option maxHeartbeats 1600000 in
theorem netSame_walk (ao : Option Addr) (l : List Due) (cap : Nat) (w : World) (hs : SlD w ao l) (hm : l.length ≤ maxLen) :
    Calls Try.prog 10 #[.slice ao l.length cap] w fun e w' => e = .returned (.bool true) ∧ Below w.heap.size w w' := by
  by_cases he : standErr l = 0
  case neg =>
    have hd : (standErr l != 0) = true := by simpa using he
    have hbad := standL_bad he
    have cS := netStand_any ao l cap w hs hm
    rw [hbad] at cS
    have cS := Lib.hid cS
    clear he hbad
    go_enter Try.func10, Try.ntmps10
    go_wp2_with (first
      | (go_at_call 28; refine cS.out.mono ?_; clear cS; rintro e w2 ⟨v2, rfl, hO2, hB2⟩; obtain ⟨ao2, cap2, rfl, _, hs2⟩ : ∃ ao cap, v2 = .slice ao 0 cap ∧ 0 ≤ cap ∧ SlI w2 ao [] := hO2.sl)
      | (go_at_call 34; refine (netBegun_any _).mono ?_; rintro e w3 ⟨rfl, hB3⟩))
    go_ret
    exact ⟨rfl, btr hB2 hB3⟩
  case pos =>
    obtain ⟨e1, e2, e3⟩ := settle_same he
    have hlen := standL_len he
    have hat := Lib.hid (fun p (hp : p < 31) => standL_at he hp)
    have cS : Calls Try.prog 28 #[.slice ao l.length cap] w (RetIE (standL l) 0 w) := by have := netStand_any ao l cap w hs hm; rwa [he] at this
    have cD : ∀ ao cap W, SlI W ao (standL l) → Calls Try.prog 30 #[.slice ao 31 cap] W (RetDE (setL (standL l)) 0 W) := fun ao cap W hs => by
      have := netSettle_any ao (standL l) cap W hs (by rw [hlen]; unfold maxLen; omega)
      rwa [hlen, e1] at this
    have hd31 : (setL (standL l)).length ≤ maxLen := by have := (netErr_ok (standErr_ok e2).1).1; unfold maxLen; omega
    have cB : ∀ ao cap W, SlD W ao (setL (standL l)) → Calls Try.prog 28 #[.slice ao (setL (standL l)).length cap] W (RetIE (standL l) 0 W) := fun ao cap W hs => by
      have := netStand_any ao (setL (standL l)) cap W hs hd31
      rwa [e2, e3] at this
    have cS := Lib.hid cS
    have cB := Lib.hid cB
    have cD := Lib.hid cD
    have hlen := Lib.hid hlen
    have tok1 : True := trivial
    clear he e1 e2 e3 hd31
    go_enter Try.func10, Try.ntmps10
    go_wp2_with (first
      | (go_at_call 28; have _t := tok1; clear tok1; refine cS.out.mono ?_; clear cS; rintro e w2 ⟨v2, rfl, hO2, hB2⟩; obtain ⟨ao2, cap2, rfl, hcap2, hs2⟩ : ∃ ao cap, v2 = .slice ao 31 cap ∧ 31 ≤ cap ∧ SlI w2 ao (standL l) := by (have h9 := OwI.sl hO2; rw [hlen.out] at h9; exact h9))
      | (go_at_call 34; refine (netBegun_any _).mono ?_; rintro e w3 ⟨rfl, hB3⟩)
      | (go_at_call 30; refine (cD.out _ _ _ (hs2.below hB3)).mono ?_; rintro e w4 ⟨v4, rfl, hO4, hB4⟩; obtain ⟨ao4, cap4, rfl, _, hs4⟩ := OwD.sl hO4; have hs24 := (hs2.below hB3).below hB4; have hB04 := btr (btr hB2 hB3) hB4)
      | (go_at_call 28; refine (cB.out _ _ _ hs4).mono ?_; clear cB; rintro e w6 ⟨v6, rfl, hO6, hB6⟩; obtain ⟨ao6, cap6, rfl, _, hs6⟩ : ∃ ao cap, v6 = .slice ao 31 cap ∧ 31 ≤ cap ∧ SlI w6 ao (standL l) := by (have h9 := OwI.sl hO6; rw [hlen.out] at h9; exact h9)))
    have hs56 := hs24.below hB6
    go_loopg [9] 31 (fun gl i wr => ∃ k : Nat, k + gl = 31 ∧ i = .int .i64 k ∧ Below w6.heap.size w6 wr)
    case atStart => exact ⟨0, by omega, rfl, Below.refl _ _⟩
    case round =>
      obtain ⟨k, hk, rfl, hB8⟩ := hrel
      have hBend := btr (btr hB04 hB6) hB8
      by_cases hlt : k < 31
      · obtain ⟨b0, off0, rfl, c0⟩ := SlI.getAt hs56 (hat.out k hlt)
        obtain ⟨b1, off1, rfl, c1⟩ := SlI.getAt hs6 (hat.out k hlt)
        have c0 := c0 _ hB8
        have c1 := c1 _ hB8
        have hi0 : (0 : Int) ≤ (k : Int) := by omega
        have hi1 : (k : Int) < 31 := by omega
        go_wp2_with fail
        go_quiet (fail)
        go_wp2_with fail
        all_goals
          go_roundg (gk - 1)
          case measure => omega
          case rel => exact ⟨k + 1, by omega, by go_num, (by repeat (first | assumption | exact Below.refl _ _ | apply bal | apply Below.drew | apply bdn | refine btr ?_ (by assumption)))⟩
      · obtain rfl : k = 31 := by omega
        go_wp2_with fail
        go_ret
        exact ⟨rfl, hBend⟩
end Go.Proofs.Ytiidekolohphnaa
