/- demurrageref.dueTo -/
import Derived.Test.YtiidekolohphnaaNetA
namespace Go.Proofs.Ytiidekolohphnaa
open Go.RowKit

def due1 (d : Due) (to frm : Int) : List Int := if d.to = to ∧ (frm < 0 ∨ d.frm = frm) then [d.amt] else []
def due2 (d : Due) (to frm : Int) : List Int := if d.frm = to ∧ (frm < 0 ∨ d.to = frm) then [-d.amt] else []
def dueToL (l : List Due) (to frm : Int) : List Int := l.flatMap fun d => due1 d to frm ++ due2 d to frm
theorem dueToL_snoc {l : List Due} {k : Nat} {to frm : Int} (h : k < l.length) : dueToL (l.take (k + 1)) to frm = dueToL (l.take k) to frm ++ due1 l[k] to frm ++ due2 l[k] to frm := by
  simp only [dueToL, take_snoc' h, List.flatMap_append]; simp [List.append_assoc]
theorem dueToL_len (l : List Due) (to frm : Int) : (dueToL l to frm).length ≤ 2 * l.length := by
  induction l with
  | nil => simp [dueToL]
  | cons d l ih =>
    have : (due1 d to frm).length ≤ 1 ∧ (due2 d to frm).length ≤ 1 := by unfold due1 due2; constructor <;> split <;> simp
    simp only [dueToL, List.flatMap_cons, List.length_append, List.length_cons] at *
    omega

set_option maxRecDepth 100000 in
set_option maxHeartbeats 1600000 in
theorem dueTo_any (ao : Option Addr) (l : List Due) (cap : Nat) (to frm : Int) (w : World) (hs : SlD w ao l) (hm : l.length ≤ 60) (hok : ∀ d ∈ l, 0 ≤ d.amt ∧ d.amt ≤ 1152921504606846976) :
    Calls Try.prog 97 #[.slice ao l.length cap, .int .i64 to, .int .i64 frm] w (RetI (dueToL l to frm) w) := by
  go_enter Try.func97, Try.ntmps97
  go_wp2_with fail
  go_loopw [7, 8] (fun v i wr => ∃ k : Nat, k ≤ l.length ∧ i = .int .i64 k ∧ Below w.heap.size w wr ∧ OwI wr w.heap.size v (dueToL (l.take k) to frm)) (fun _ i _ => l.length - (intOf i).toNat)
  case atStart => exact ⟨0, Nat.zero_le _, rfl, Below.refl _ _, Ow.nil _ _⟩
  case round =>
    obtain ⟨k, hk, rfl, hB, hO⟩ := hrel
    by_cases hlt : k < l.length
    · have hst := Lib.hid (dueToL_snoc (to := to) (frm := frm) hlt)
      have hln := dueToL_len (l.take k) to frm
      rw [List.length_take_of_le hk] at hln
      obtain ⟨b, off, rfl, hc⟩ := hs.at hlt
      obtain ⟨c0, c1, c2⟩ := hc _ hB
      obtain ⟨a1, a2⟩ := hok _ (List.getElem_mem hlt)
      have hc := Lib.hid hc
      go_wp2_with (first
        | (at_builtin; refine wpList_appI rfl (.tmp 35) (.tmp 41) rfl hO rfl rfl (by first | omega | (simp; omega)) hB.size ?_; intro v1 w1 hO1 hg1 hl1; have hB1 := btv hB hO hg1; clear hl1; obtain ⟨c10, c11, c12⟩ := hc.out _ hB1)
        | (at_builtin; refine wpList_appI rfl (.tmp 63) (.tmp 70) rfl hO1 rfl rfl (by first | omega | (simp; omega)) hB1.size ?_; intro v2 w2 hO2 hg2 hl2; have hB2 := btv hB1 hO1 hg2; clear hl2)
        | (at_builtin; refine wpList_appI rfl (.tmp 63) (.tmp 70) rfl hO rfl rfl (by first | omega | (simp; omega)) hB.size ?_; intro v3 w3 hO3 hg3 hl3; have hB3 := btv hB hO hg3; clear hl3))
      all_goals
        go_roundw
        case rel => first
          | exact ⟨k + 1, by omega, by go_num, hB2, hO2.cast (by go_light; rw [hst.out]; grind [due1, due2])⟩
          | exact ⟨k + 1, by omega, by go_num, hB3, hO3.cast (by go_light; rw [hst.out]; grind [due1, due2])⟩
          | exact ⟨k + 1, by omega, by go_num, hB1, hO1.cast (by go_light; rw [hst.out]; grind [due1, due2])⟩
          | exact ⟨k + 1, by omega, by go_num, hB, hO.cast (by go_light; rw [hst.out]; grind [due1, due2])⟩
        case measure => simp [intOf]; omega
    · obtain rfl : l.length = k := by omega
      rw [List.take_length] at hO
      go_wp2_with fail
      go_ret
      exact ⟨_, rfl, hO, hB⟩
end Go.Proofs.Ytiidekolohphnaa
