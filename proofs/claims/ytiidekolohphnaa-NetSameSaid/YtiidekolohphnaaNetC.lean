/- demurrageref.NetStand -/
import Derived.Test.YtiidekolohphnaaNetB
import Derived.Test.YtiidekolohphnaaSumOf
namespace Go.Proofs.Ytiidekolohphnaa
open Go.RowKit

def standAt (l : List Due) (p : Nat) : Int := (dueToL l p (-1)).sum
def standOk (l : List Due) (k : Nat) : Bool := (List.range k).all fun p => amtOk (standAt l p)
def standErr (l : List Due) : Int := if netErr l = 0 then (if standOk l 31 then 0 else 8) else netErr l
def standL (l : List Due) : List Int := if standErr l = 0 then (List.range 31).map (standAt l) else []

theorem netErr_ok {l : List Due} (h : netErr l = 0) : l.length ≤ 60 ∧ ∀ d ∈ l, dueErr d = 0 := by
  unfold netErr at h
  split at h
  · cases h
  · refine ⟨by omega, ?_⟩
    rename_i hn
    clear hn
    induction l with
    | nil => simp
    | cons d l ih =>
      rw [duesErr] at h
      split at h
      · rename_i h0
        intro x hx
        rcases List.mem_cons.1 hx with rfl | hx
        · exact h0
        · exact ih h x hx
      · rename_i h0; exact absurd h h0
theorem dueErr_ok {d : Due} (h : dueErr d = 0) : (0 ≤ d.frm ∧ d.frm ≤ 30) ∧ (0 ≤ d.to ∧ d.to ≤ 30) ∧ (1 ≤ d.amt ∧ d.amt ≤ 1152921504606846976) ∧ d.frm ≠ d.to := by
  grind [dueErr, dueOk, btw]
theorem dueToL_ok {l : List Due} (h : ∀ d ∈ l, dueErr d = 0) (a b : Int) : ∀ n ∈ dueToL l a b, amtOk n = true := by
  intro n hn
  simp only [dueToL, List.mem_flatMap, List.mem_append] at hn
  obtain ⟨d, hd, hn⟩ := hn
  obtain ⟨_, _, h3, _⟩ := dueErr_ok (h d hd)
  rcases hn with hn | hn
  · unfold due1 at hn; split at hn <;> simp at hn; subst hn; simp [amtOk, btw]; omega
  · unfold due2 at hn; split at hn <;> simp at hn; subst hn; simp [amtOk, btw]; omega
theorem standOk_succ (l : List Due) (k : Nat) : standOk l (k + 1) = (standOk l k && amtOk (standAt l k)) := by
  simp [standOk, List.range_succ]
theorem standOk_mono {l : List Due} {k n : Nat} (hk : k < n) (h : amtOk (standAt l k) = false) : standOk l n = false := by
  unfold standOk
  rw [List.all_eq_false]
  exact ⟨k, List.mem_range.2 hk, by simp [h]⟩

set_option maxRecDepth 100000 in
set_option maxHeartbeats 1600000 in
theorem refNetStand_any (ao : Option Addr) (l : List Due) (cap : Nat) (w : World) (hs : SlD w ao l) (hm : l.length ≤ maxLen) :
    Calls Try.prog 31 #[.slice ao l.length cap] w (RetIE (standL l) (standErr l) w) := by
  by_cases h0 : netErr l = 0
  case neg =>
    have hd : (netErr l != 0) = true := by simpa using h0
    go_enter Try.func31, Try.ntmps31
    go_wp2_with (go_at_call 36; refine (refNetCheck_any _ _ _ _ hs hm).mono ?_; rintro e w1 ⟨rfl, hB1⟩)
    go_ret2
    refine ⟨_, ret_v rfl (by grind [standErr]), ?_, hB1⟩
    rw [show standL l = [] by grind [standL, standErr]]
    exact Ow.nil _ _
  case pos =>
    have hd : (netErr l != 0) = false := by simpa using h0
    obtain ⟨h60, hok⟩ := netErr_ok h0
    have HE : Hid (standErr l = if standOk l 31 then 0 else 8) := by show _ = _; grind [standErr]
    clear h0
    go_enter Try.func31, Try.ntmps31
    go_wp2_with (go_at_call 36; refine (refNetCheck_any _ _ _ _ hs hm).mono ?_; rintro e w1 ⟨rfl, hB1⟩)
    go_loopw [5, 6] (fun v i wr => ∃ k : Nat, k ≤ 31 ∧ i = .int .i64 k ∧ Below w.heap.size w wr ∧ OwI wr w.heap.size v ((List.range k).map (standAt l)) ∧ standOk l k = true) (fun _ i _ => 31 - (intOf i).toNat)
    case atStart => exact ⟨0, by omega, rfl, hB1, Ow.nil _ _, rfl⟩
    case round =>
      obtain ⟨k, hk, rfl, hB, hO, hK⟩ := hrel
      have hK := Lib.hid hK
      by_cases hlt : k < 31
      · have hs2 := hs.below hB
        have hok2 : ∀ d ∈ l, 0 ≤ d.amt ∧ d.amt ≤ 1152921504606846976 := fun d hd => by have := dueErr_ok (hok d hd); omega
        have hok2 := Lib.hid hok2
        have hok3 := Lib.hid (dueToL_ok hok k (-1))
        have hln := dueToL_len l k (-1)
        clear hok
        go_wp2_with (first
          | (go_at_call 97; refine (dueTo_any _ l _ _ _ _ hs2 h60 hok2.out).mono ?_; rintro e w3 ⟨v3, rfl, hO3, hB3⟩; obtain ⟨ao3, cap3, rfl, _, hs3⟩ := hO3.sl)
          | (go_at_call 38; refine (sumOf_any _ (dueToL l k (-1)) _ _ hs3 (by omega) hok3.out).mono ?_; rintro e w4 ⟨⟨n, rfl, hn⟩, hB4⟩; have hB5 := btr (btr hB hB3) hB4; have hO5 := (hO.below hB3).below hB4)
          | (at_builtin; refine wpList_appI rfl (.tmp 27) (.tmp 29) rfl hO5 rfl rfl (by first | omega | (simp; omega)) hB5.size ?_; intro v6 w6 hO6 hg6 hl6; have hB6 := btv hB5 hO5 hg6))
        · go_ret2
          have hf : standOk l 31 = false := standOk_mono hlt (by unfold standAt; go_light; grind)
          refine ⟨_, ret_v rfl (by rw [HE.out, hf]; rfl), ?_, hB5⟩
          rw [show standL l = [] by have h1 := HE.out; grind [standL]]
          exact Ow.nil _ _
        · have ha : amtOk (dueToL l k (-1)).sum = true := by go_light; grind
          obtain rfl := hn ha
          go_roundw
          case rel => exact ⟨k + 1, by omega, by go_num, hB6, hO6.cast (by rw [List.range_succ, List.map_append]; rfl), by rw [standOk_succ, hK.out]; exact ha⟩
          case measure => simp [intOf]; omega
      · obtain rfl : k = 31 := by omega
        go_wp2_with fail
        go_ret2
        refine ⟨_, ret_v rfl (by rw [HE.out, hK.out]; rfl), ?_, hB⟩
        rw [show standL l = (List.range 31).map (standAt l) by have h1 := HE.out; have h2 := hK.out; grind [standL]]
        exact hO
end Go.Proofs.Ytiidekolohphnaa
