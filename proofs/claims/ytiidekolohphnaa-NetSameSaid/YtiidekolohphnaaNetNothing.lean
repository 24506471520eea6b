/- NetNothing: the walk -/
import Derived.Test.YtiidekolohphnaaStandP
import Derived.Test.YtiidekolohphnaaBegun
namespace Go.Proofs.Ytiidekolohphnaa
open Go.RowKit

theorem amtOk_bd {n : Int} (h : amtOk n = true) : -1152921504606846976 ≤ n ∧ n ≤ 1152921504606846976 := by simp [amtOk, btw] at h; omega
theorem SlI.getAt {w : World} {ao : Option Addr} {l : List Int} (h : SlI w ao l) {k : Nat} {x : Int} (hx : l[k]? = some x) : ∃ b off, ao = some ⟨b, off, none⟩ ∧ ∀ w', Below w.heap.size w w' → w'.cell? ⟨b, off + k, none⟩ = some (.int .i64 x) := by
  obtain ⟨hk, rfl⟩ := List.getElem?_eq_some_iff.1 hx
  exact h.at hk
set_option maxRecDepth 100000 in
set_option maxHeartbeats 1600000 in
theorem netNothing_walk (ao : Option Addr) (l : List Due) (cap : Nat) (w : World) (hs : SlD w ao l) (hm : l.length ≤ maxLen) :
    Calls Try.prog 7 #[.slice ao l.length cap] w fun e w' => e = .returned (.bool true) ∧ Below w.heap.size w w' := by
  by_cases he : standErr l = 0
  case neg =>
    have hd : (standErr l != 0) = true := by simpa using he
    have hbad := standL_bad he
    have cS := netStand_any ao l cap w hs hm
    rw [hbad] at cS
    have cS := Lib.hid cS
    clear he hbad
    go_enter Try.func7, Try.ntmps7
    go_wp2_with (first
      | (go_at_call 28; refine cS.out.mono ?_; clear cS; rintro e w2 ⟨v2, rfl, hO2, hB2⟩; obtain ⟨ao2, cap2, rfl, _, hs2⟩ : ∃ ao cap, v2 = .slice ao 0 cap ∧ 0 ≤ cap ∧ SlI w2 ao [] := hO2.sl)
      | (go_at_call 34; refine (netBegun_any _).mono ?_; rintro e w3 ⟨rfl, hB3⟩))
    go_ret
    exact ⟨rfl, btr hB2 hB3⟩
  case pos =>
    have hd : (standErr l != 0) = false := by simpa using he
    obtain ⟨h0, hall⟩ := standErr_ok he
    obtain ⟨h60, hok⟩ := netErr_ok h0
    have hall := Lib.hid hall
    have hsum : (standL l).sum = 0 := by unfold standL; rw [if_pos he]; exact stand_sum hok
    have hlen := standL_len he
    have hat := Lib.hid (fun p (hp : p < 31) => standL_at he hp)
    obtain ⟨e1, e2⟩ := stand_swap he
    have hamt : ∀ n ∈ standL l, amtOk n = true := fun n hn => by
      obtain ⟨p, hp, rfl⟩ := List.getElem_of_mem hn
      have h1 := hat.out p (by omega)
      rw [List.getElem?_eq_getElem hp] at h1
      rw [Option.some.inj h1]; exact hall.out p (by omega)
    have cS : Calls Try.prog 28 #[.slice ao l.length cap] w (RetIE (standL l) 0 w) := by have := netStand_any ao l cap w hs hm; rwa [he] at this
    have cB : ∀ ao cap W, SlD W ao (l.map swapD) → Calls Try.prog 28 #[.slice ao l.length cap] W (RetIE ((standL l).map (- ·)) 0 W) := fun ao cap W hs => by
      have := netStand_any ao (l.map swapD) cap W hs (by simpa using hm)
      rwa [List.length_map, e1, e2] at this
    have cQ : ∀ ao cap W, SlI W ao (standL l) → Calls Try.prog 38 #[.slice ao 31 cap] W fun e w' => e = .returned (.tuple #[.int .i64 0, .bool true]) ∧ Below W.heap.size W w' := fun ao cap W hs => by
      have := sumOf_any ao (standL l) cap W hs (by omega) hamt
      rw [hlen] at this
      refine this.mono ?_
      rintro e w' ⟨⟨n, rfl, hn⟩, hB⟩
      rw [hsum] at hn ⊢
      rw [hn rfl]
      exact ⟨rfl, hB⟩
    have cS := Lib.hid cS
    have cB := Lib.hid cB
    have cQ := Lib.hid cQ
    have hlen := Lib.hid hlen
    have tok1 : True := trivial
    clear he hsum e1 e2 h0 hamt
    go_enter Try.func7, Try.ntmps7
    go_wp2_with (first
      | (go_at_call 28; refine cS.out.mono ?_; clear cS; rintro e w2 ⟨v2, rfl, hO2, hB2⟩; obtain ⟨ao2, cap2, rfl, hcap2, hs2⟩ : ∃ ao cap, v2 = .slice ao 31 cap ∧ 31 ≤ cap ∧ SlI w2 ao (standL l) := by (have h9 := OwI.sl hO2; rw [hlen.out] at h9; exact h9))
      | (go_at_call 34; refine (netBegun_any _).mono ?_; rintro e w3 ⟨rfl, hB3⟩)
      | (go_at_call 38; refine (cQ.out _ _ _ (hs2.below hB3)).mono ?_; rintro e w4 ⟨rfl, hB4⟩; have hs4 := (hs2.below hB3).below hB4; have hB04 := btr (btr hB2 hB3) hB4))
    go_loopg [7, 8] l.length (fun gl v i wr => ∃ k : Nat, k + gl = l.length ∧ i = .int .i64 k ∧ Below w4.heap.size w4 wr ∧ OwD wr w4.heap.size v ((l.take k).map swapD))
    case atStart => exact ⟨0, by omega, rfl, Below.refl _ _, Ow.nil _ _⟩
    case round =>
      obtain ⟨k, hk, rfl, hB, hO⟩ := hrel
      have hBw := btr hB04 hB
      by_cases hlt : k < l.length
      · obtain ⟨b, off, rfl, hc⟩ := hs.at hlt
        have hi0 : (0 : Int) ≤ (k : Int) := by omega
        have hi1 : (k : Int) < (l.length : Int) := by omega
        have hS0 := Lib.hid (hc _ hBw.drew)
        have hc := Lib.hid hc
        have hOd : OwD wr.drew w4.heap.size _ ((l.take k).map swapD) := Ow.drewN hO 1
        have hll : ((l.take k).map swapD).length ≤ 1000 := by simp; omega
        go_wp2_with fail
        go_region_held3 (fun w' => w'.cell? ⟨b, off + k * 3, none⟩ = some (.int .i64 l[k].frm) ∧ w'.cell? ⟨b, off + k * 3 + 1, none⟩ = some (.int .i64 l[k].to) ∧ w'.cell? ⟨b, off + k * 3 + 2, none⟩ = some (.int .i64 l[k].amt))
          (first | exact hS0.out | exact hc.out _ (btr hB04 (btv hB.drew hOd (by assumption))) | exact hc.out _ (bal hBw.drew _) | exact hc.out _ (bal hBw _).drew | go_keep)
          ((refine step_appD (by rfl) _ _ (by rfl) (W := wr.drew) (y := swapD l[k]) (by rfl) (by first | rfl | (simp [World.drew, Act.eval])) rfl hOd hll hB.size ?_; intro v' w5 hO5 hgr5))
        all_goals go_wp2_with fail
        all_goals
          go_roundg (gk - 1)
          case measure => omega
          case rel => exact ⟨k + 1, by omega, by go_num, btv hB.drew hOd hgr5, hO5.cast (by rw [take_snoc' hlt, List.map_append]; rfl)⟩
      · obtain rfl : k = l.length := by omega
        rw [List.take_length] at hO
        obtain ⟨ao3, cap3, rfl, _, hs3⟩ : ∃ ao cap, u7 = .slice ao l.length cap ∧ l.length ≤ cap ∧ SlD wr ao (l.map swapD) := by have := OwD.sl hO; rwa [List.length_map] at this
        have hs5 := hs4.below hB
        clear hO
        obtain ⟨wq, hwq⟩ : ∃ wq : World, wq = wr := ⟨_, rfl⟩
        subst hwq
        go_wp2_with (go_at_call 28; refine (cB.out _ _ _ hs3).mono ?_; clear cB; rintro e w6 ⟨v6, rfl, hO6, hB6⟩; obtain ⟨ao6, cap6, rfl, _, hs6⟩ : ∃ ao cap, v6 = .slice ao 31 cap ∧ 31 ≤ cap ∧ SlI w6 ao ((standL l).map (- ·)) := by (have h9 := OwI.sl hO6; rw [List.length_map, hlen.out] at h9; exact h9))
        have hs56 := hs5.below hB6
        go_loopg [11] 31 (fun gl i wr => ∃ k : Nat, k + gl = 31 ∧ i = .int .i64 k ∧ Below w6.heap.size w6 wr)
        case atStart => exact ⟨0, by omega, rfl, Below.refl _ _⟩
        case round =>
          obtain ⟨k, hk, rfl, hB8⟩ := hrel
          have hBend := btr (btr hBw hB6) hB8
          by_cases hlt : k < 31
          · obtain ⟨y, hy⟩ : ∃ y : Int, standAt l k = -y := ⟨-standAt l k, by omega⟩
            have hyb := amtOk_bd (hall.out k hlt)
            have c0 := SlI.getAt hs56 (hat.out k hlt)
            have c1 : ∃ b off, ao6 = some ⟨b, off, none⟩ ∧ ∀ w', Below w6.heap.size w6 w' → w'.cell? ⟨b, off + k, none⟩ = some (.int .i64 y) := SlI.getAt hs6 (by rw [List.getElem?_map, hat.out k hlt, hy]; simp)
            rw [hy] at c0
            obtain ⟨b0, off0, rfl, c0⟩ := c0
            obtain ⟨b1, off1, rfl, c1⟩ := c1
            have c0 := c0 _ hB8
            have c1 := c1 _ hB8
            have hwr : IntKind.i64.wrap (-y) = -y := (IntKind.wrap_i64 _).trans (by omega)
            have hi0 : (0 : Int) ≤ (k : Int) := by omega
            have hi1 : (k : Int) < 31 := by omega
            clear hy hyb
            go_wp2_with fail
            go_quiet (fail)
            go_wp2_with fail
            all_goals
              go_roundg (gk - 1)
              case measure => omega
              case rel => exact ⟨k + 1, by omega, by go_num, (by repeat (first | assumption | exact Below.refl _ _ | apply bal | apply Below.drew | apply bdn | refine btr ?_ (by assumption)))⟩
          · obtain rfl : k = 31 := by omega
            go_wp2_with fail
            go_ret
            exact ⟨rfl, hBend⟩
end Go.Proofs.Ytiidekolohphnaa
