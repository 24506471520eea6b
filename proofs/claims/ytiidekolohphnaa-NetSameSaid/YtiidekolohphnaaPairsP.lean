/- Pairs: the plain law, and demurrageref.NetPairs -/
import Derived.Test.YtiidekolohphnaaNetC
import Derived.Deep.Cut
import Derived.Deep.LoopGhost
namespace Go.Proofs.Ytiidekolohphnaa
open Go.RowKit

theorem amtOk_b {n : Int} (h : amtOk n = true) : -1152921504606846976 ≤ n ∧ n ≤ 1152921504606846976 := by simp [amtOk, btw] at h; omega
def pSum (l : List Due) (a b : Nat) : Int := (dueToL l b a).sum
def pDue (a b : Nat) (n : Int) : List Due := if 0 < n then [⟨a, b, n⟩] else if n < 0 then [⟨b, a, -n⟩] else []
def pRowTo (l : List Due) (a n : Nat) : List Due := (List.range' (a + 1) n).flatMap fun b => pDue a b (pSum l a b)
def pRow (l : List Due) (a : Nat) : List Due := pRowTo l a (30 - a)
def pRaw (l : List Due) (n : Nat) : List Due := (List.range n).flatMap (pRow l)
def pOkTo (l : List Due) (a n : Nat) : Bool := (List.range' (a + 1) n).all fun b => amtOk (pSum l a b)
def pOk (l : List Due) (n : Nat) : Bool := (List.range n).all fun a => pOkTo l a (30 - a)
def pErr (l : List Due) : Int := if netErr l = 0 then (if pOk l 31 then 0 else 8) else netErr l
def pL (l : List Due) : List Due := if pErr l = 0 then pRaw l 31 else []

theorem pRowTo_succ (l : List Due) (a n : Nat) : pRowTo l a (n + 1) = pRowTo l a n ++ pDue a (a + 1 + n) (pSum l a (a + 1 + n)) := by
  simp [pRowTo, List.range'_1_concat]
theorem pOkTo_succ (l : List Due) (a n : Nat) : pOkTo l a (n + 1) = (pOkTo l a n && amtOk (pSum l a (a + 1 + n))) := by
  simp [pOkTo, List.range'_1_concat]
theorem pRaw_succ (l : List Due) (n : Nat) : pRaw l (n + 1) = pRaw l n ++ pRow l n := by simp [pRaw, List.range_succ]
theorem pOk_succ (l : List Due) (n : Nat) : pOk l (n + 1) = (pOk l n && pOkTo l n (30 - n)) := by simp [pOk, List.range_succ]
theorem pOk_iff (l : List Due) : pOk l 31 = true ↔ ∀ a b, a < b → b ≤ 30 → amtOk (pSum l a b) = true := by
  simp only [pOk, pOkTo, List.all_eq_true, List.mem_range, List.mem_range'_1]
  constructor
  · intro h a b h1 h2; exact h a (by omega) b (by omega)
  · intro h a ha b hb; exact h a b (by omega) (by omega)
theorem pOk_bad {l : List Due} {a b : Nat} (h1 : a < b) (h2 : b ≤ 30) (h : amtOk (pSum l a b) = false) : pOk l 31 = false := by
  rw [← Bool.not_eq_true, pOk_iff]; intro hh; rw [hh a b h1 h2] at h; cases h
theorem pDue_len (a b : Nat) (n : Int) : (pDue a b n).length ≤ 1 := by
  unfold pDue
  split
  · simp
  · split <;> simp
theorem pRowTo_len (l : List Due) (a : Nat) : ∀ n, (pRowTo l a n).length ≤ n
  | 0 => by simp [pRowTo]
  | n + 1 => by rw [pRowTo_succ, List.length_append]; have := pRowTo_len l a n; have := pDue_len a (a + 1 + n) (pSum l a (a + 1 + n)); omega
theorem pRaw_len (l : List Due) : ∀ n, (pRaw l n).length ≤ 30 * n
  | 0 => by simp [pRaw]
  | n + 1 => by rw [pRaw_succ, List.length_append]; have := pRaw_len l n; have := pRowTo_len l n (30 - n); unfold pRow; omega

set_option maxRecDepth 100000 in
set_option maxHeartbeats 1600000 in
theorem refNetPairs_any (ao : Option Addr) (l : List Due) (cap : Nat) (w : World) (hs : SlD w ao l) (hm : l.length ≤ maxLen) :
    Calls Try.prog 32 #[.slice ao l.length cap] w (RetDE (pL l) (pErr l) w) := by
  by_cases h0 : netErr l = 0
  case neg =>
    have hd : (netErr l != 0) = true := by simpa using h0
    go_enter Try.func32, Try.ntmps32
    go_wp2_with (go_at_call 36; refine (refNetCheck_any _ _ _ _ hs hm).mono ?_; rintro e w1 ⟨rfl, hB1⟩)
    go_ret2
    refine ⟨_, ret_v rfl (by grind [pErr]), ?_, hB1⟩
    rw [show pL l = [] by grind [pL, pErr]]
    exact Ow.nil _ _
  case pos =>
    have hd : (netErr l != 0) = false := by simpa using h0
    obtain ⟨h60, hok⟩ := netErr_ok h0
    have HE : Hid (pErr l = if pOk l 31 then 0 else 8) := by show _ = _; grind [pErr]
    clear h0
    go_enter Try.func32, Try.ntmps32
    go_wp2_with (go_at_call 36; refine (refNetCheck_any _ _ _ _ hs hm).mono ?_; rintro e w1 ⟨rfl, hB1⟩)
    go_loopw [5, 6] (fun v i wr => ∃ k : Nat, k ≤ 31 ∧ i = .int .i64 k ∧ Below w.heap.size w wr ∧ OwD wr w.heap.size v (pRaw l k) ∧ pOk l k = true) (fun _ i _ => 31 - (intOf i).toNat)
    case atStart => exact ⟨0, by omega, rfl, hB1, Ow.nil _ _, rfl⟩
    case round =>
      obtain ⟨k, hk, rfl, hB, hO, hK⟩ := hrel
      have hK := Lib.hid hK
      have hO := Lib.hid hO
      by_cases hlt : k < 31
      · have hln0 := pRaw_len l k
        obtain ⟨wq, hwq⟩ : ∃ wq : World, wq = wr := ⟨_, rfl⟩
        subst hwq
        have h30 : decide ((k : Int) ≤ 30) = true := by simp; omega
        go_wp2_with fail
        go_loopg [5, 7] (30 - k) (fun gl v i wr => ∃ n : Nat, n + gl = 30 - k ∧ i = .int .i64 (k + 1 + n : Nat) ∧ Below w.heap.size w wr ∧ OwD wr w.heap.size v (pRaw l k ++ pRowTo l k n) ∧ pOkTo l k n = true)
        case atStart => exact ⟨0, by omega, by go_num, hB, by simpa [pRowTo] using hO.out, rfl⟩
        case round =>
          clear hB hO
          obtain ⟨n, hn, rfl, hB, hO, hN⟩ := hrel
          have hN := Lib.hid hN
          by_cases hlt2 : n < 30 - k
          · have hs2 := hs.below hB
            have hok2 : ∀ d ∈ l, 0 ≤ d.amt ∧ d.amt ≤ 1152921504606846976 := fun d hd => by have := dueErr_ok (hok d hd); omega
            have hok2 := Lib.hid hok2
            have hok3 := Lib.hid (dueToL_ok hok (k + 1 + n : Nat) k)
            have hln := dueToL_len l (k + 1 + n : Nat) k
            have hln2 : (pRaw l k ++ pRowTo l k n).length ≤ 2000 := by have := pRowTo_len l k n; rw [List.length_append]; omega
            clear hok
            go_wp2_with (first
              | (go_at_call 97; refine (dueTo_any _ l _ _ _ _ hs2 h60 hok2.out).mono ?_; rintro e w3 ⟨v3, rfl, hO3, hB3⟩; obtain ⟨ao3, cap3, rfl, _, hs3⟩ := hO3.sl)
              | (go_at_call 38; refine (sumOf_any _ (dueToL l (k + 1 + n : Nat) k) _ _ hs3 (by omega) hok3.out).mono ?_; rintro e w4 ⟨⟨m, rfl, hm⟩, hB4⟩; have hB5 := btr (btr hB hB3) hB4; have hO5 := (hO.below hB3).below hB4)
              | (at_builtin; refine wpList_appD rfl (.tmp 37) (.tmp 42) rfl hO5 rfl rfl (by first | omega | (simp; omega)) hB5.size ?_; intro v6 w6 hO6 hg6 hl6; have hB6 := btv hB5 hO5 hg6)
              | (at_builtin; refine wpList_appD rfl (.tmp 46) (.tmp 52) rfl hO5 rfl rfl (by first | omega | (simp; omega)) hB5.size ?_; intro v6 w6 hO6 hg6 hl6; have hB6 := btv hB5 hO5 hg6))
            all_goals have ec : (((k + 1 + n : Nat)) : Int) = (k : Int) + 1 + n := by omega
            all_goals first
              | (go_ret2
                 have hf : amtOk (pSum l k (k + 1 + n)) = false := by unfold pSum; rw [ec]; go_light; grind
                 refine ⟨_, ret_v rfl (by rw [HE.out, pOk_bad (a := k) (b := k + 1 + n) (by omega) (by omega) hf]; rfl), ?_, hB5⟩
                 rw [show pL l = [] by have h1 := HE.out; have h2 := pOk_bad (a := k) (b := k + 1 + n) (by omega) (by omega) hf; grind [pL]]
                 exact Ow.nil _ _)
              | (have ha : amtOk (dueToL l ((k : Int) + 1 + n) k).sum = true := by go_light; grind
                 have hme := hm ha
                 have ha' : amtOk (pSum l k (k + 1 + n)) = true := by unfold pSum; rw [ec]; exact ha
                 have hd1 : pDue k (k + 1 + n) (pSum l k (k + 1 + n)) = pDue k (k + 1 + n) m := by rw [hme]; unfold pSum; rw [ec]
                 go_roundg (gk - 1)
                 case measure => omega
                 case rel =>
                   refine ⟨n + 1, by omega, by go_num, by first | exact hB6 | exact hB5, ?_, by rw [pOkTo_succ, hN.out, ha']; rfl⟩
                   rw [pRowTo_succ, hd1, ← List.append_assoc]
                   unfold pDue
                   rw [ec]
                   first
                     | (rw [if_pos (by assumption)]; exact hO6)
                     | (rw [if_neg (by omega), if_pos (by assumption)]; exact hO6)
                     | (rw [if_neg (by omega), if_neg (by omega), List.append_nil]; exact hO5)
                     | (rw [if_neg (by omega), if_pos (by omega)]; exact hO6.cast (by rw [wrap64_id (by have hb := amtOk_b (n := m) (by rw [hme, ec]; exact ha); go_light; omega)])))
          · obtain rfl : n = 30 - k := by omega
            have hN2 : pOk l (k + 1) = true := by rw [pOk_succ, hK.out, hN.out]; rfl
            have hN2 := Lib.hid hN2
            go_wp2_with fail
            go_roundw
            case rel => exact ⟨k + 1, by omega, by go_num, hB, by rw [pRaw_succ]; exact hO, hN2.out⟩
            case measure => simp [intOf]; omega
      · obtain rfl : k = 31 := by omega
        go_wp2_with fail
        go_ret2
        refine ⟨_, ret_v rfl (by rw [HE.out, hK.out]; rfl), ?_, hB⟩
        rw [show pL l = pRaw l 31 by have h1 := HE.out; have h2 := hK.out; grind [pL]]
        exact hO.out
end Go.Proofs.Ytiidekolohphnaa
