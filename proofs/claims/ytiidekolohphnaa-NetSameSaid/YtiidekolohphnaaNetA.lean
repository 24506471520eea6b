/- net.Check, demurrageref.NetCheck. -/
import Derived.Test.YtiidekolohphnaaNum
namespace Go.Proofs.Ytiidekolohphnaa
open Go.RowKit

def dueOk (d : Due) : Bool := btw d.frm 0 30 && (btw d.to 0 30 && btw d.amt 1 1152921504606846976)
def dueErr (d : Due) : Int := if dueOk d then (if d.frm = d.to then 1 else 0) else 3
def duesErr : List Due → Int
  | [] => 0
  | d :: l => if dueErr d = 0 then duesErr l else dueErr d
def netErr (l : List Due) : Int := if 60 < l.length then 2 else duesErr l

theorem duesErr_step {l : List Due} {k : Nat} (h : k < l.length) : duesErr (l.drop k) = if dueErr l[k] = 0 then duesErr (l.drop (k + 1)) else dueErr l[k] := by
  rw [List.drop_eq_getElem_cons h]; rfl
theorem duesErr_end {l : List Due} {k : Nat} (h : ¬ k < l.length) : duesErr (l.drop k) = 0 := by
  rw [List.drop_eq_nil_of_le (by omega)]; rfl

set_option maxHeartbeats 400000 in
theorem netCheck_any (ao : Option Addr) (l : List Due) (cap : Nat) (w : World) (hs : SlD w ao l) (hm : l.length ≤ maxLen) :
    Calls Try.prog 35 #[.slice ao l.length cap] w fun e w' => e = .returned (.int .i64 (netErr l)) ∧ Below w.heap.size w w' := by
  unfold maxLen at hm
  go_enter Try.func35, Try.ntmps35
  go_wp2_with fail
  · go_ret
    exact ⟨ret_int (by grind [netErr]), Below.refl _ _⟩
  have h60 : l.length ≤ 60 := by omega
  have hne : netErr l = duesErr l := by grind [netErr]
  have Hne := Lib.hid hne
  clear hne
  go_loopw [10] (fun i wr => ∃ k : Nat, k ≤ l.length ∧ i = .int .i64 k ∧ Below w.heap.size w wr ∧ Hid (netErr l = duesErr (l.drop k))) (fun i _ => l.length - (intOf i).toNat)
  case atStart => exact ⟨0, Nat.zero_le _, rfl, Below.refl _ _, Hne.out⟩
  case round =>
    obtain ⟨k, hk, rfl, hB, hE⟩ := hrel
    by_cases hlt : k < l.length
    · have hst := Lib.hid (hE.out.trans (duesErr_step hlt))
      obtain ⟨b, off, rfl, hc⟩ := hs.at hlt
      obtain ⟨c0, c1, c2⟩ := hc _ hB
      clear hc hE
      go_wp2_with (go_at_call 100; refine (party_any _ _).mono ?_; rintro e w' ⟨rfl, rfl⟩)
      all_goals first
        | (go_ret; exact ⟨ret_int (by go_light; have := hst.out; grind [dueErr, dueOk, btw]), (by repeat (first | assumption | exact Below.refl _ _ | apply bal | apply Below.drew | apply bdn | refine btr ?_ (by assumption)))⟩)
        | (go_roundw
           case rel => exact ⟨k + 1, by omega, by go_num, (by repeat (first | assumption | exact Below.refl _ _ | apply bal | apply Below.drew | apply bdn | refine btr ?_ (by assumption))), by go_light; have := hst.out; show _ = _; grind [dueErr, dueOk, btw]⟩
           case measure => simp [intOf]; omega)
    · have hst := Lib.hid (hE.out.trans (duesErr_end hlt))
      clear hE
      go_wp2_with fail
      go_ret
      exact ⟨ret_int hst.out.symm, hB⟩

set_option maxHeartbeats 800000 in
theorem refNetCheck_any (ao : Option Addr) (l : List Due) (cap : Nat) (w : World) (hs : SlD w ao l) (hm : l.length ≤ maxLen) :
    Calls Try.prog 36 #[.slice ao l.length cap] w fun e w' => e = .returned (.int .i64 (netErr l)) ∧ Below w.heap.size w w' := by
  unfold maxLen at hm
  go_enter Try.func36, Try.ntmps36
  go_wp2_with fail
  · go_ret
    exact ⟨ret_int (by grind [netErr]), Below.refl _ _⟩
  have h60 : l.length ≤ 60 := by omega
  have hne : netErr l = duesErr l := by grind [netErr]
  have Hne := Lib.hid hne
  clear hne
  go_loopw [3] (fun i wr => ∃ k : Nat, k ≤ l.length ∧ i = .int .i64 k ∧ Below w.heap.size w wr ∧ Hid (netErr l = duesErr (l.drop k))) (fun i _ => l.length - (intOf i).toNat)
  case atStart => exact ⟨0, Nat.zero_le _, rfl, Below.refl _ _, Hne.out⟩
  case round =>
    obtain ⟨k, hk, rfl, hB, hE⟩ := hrel
    by_cases hlt : k < l.length
    · have hst := Lib.hid (hE.out.trans (duesErr_step hlt))
      obtain ⟨b, off, rfl, hc⟩ := hs.at hlt
      obtain ⟨c0, c1, c2⟩ := hc _ hB
      clear hc hE
      go_wp2_with (go_at_call 77; refine (between_any _ _ _ _).mono ?_; rintro e w' ⟨rfl, rfl⟩)
      all_goals first
        | (go_ret; exact ⟨ret_int (by go_light; have := hst.out; grind [dueErr, dueOk, btw]), (by repeat (first | assumption | exact Below.refl _ _ | apply bal | apply Below.drew | apply bdn | refine btr ?_ (by assumption)))⟩)
        | (go_quiet (fail)
           go_wp2_with fail
           all_goals first
            | (go_ret; exact ⟨ret_int (by go_light; have := hst.out; grind [dueErr, dueOk, btw]), (by repeat (first | assumption | exact Below.refl _ _ | apply bal | apply Below.drew | apply bdn | refine btr ?_ (by assumption)))⟩)
            | (go_roundw
               case rel => exact ⟨k + 1, by omega, by go_num, (by repeat (first | assumption | exact Below.refl _ _ | apply bal | apply Below.drew | apply bdn | refine btr ?_ (by assumption))), by go_light; have := hst.out; show _ = _; grind [dueErr, dueOk, btw]⟩
               case measure => simp [intOf]; omega))
    · have hst := Lib.hid (hE.out.trans (duesErr_end hlt))
      clear hE
      go_wp2_with fail
      go_ret
      exact ⟨ret_int hst.out.symm, hB⟩
end Go.Proofs.Ytiidekolohphnaa
