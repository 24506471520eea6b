/- demurrageref.SumOf -/
import Derived.Test.YtiidekolohphnaaNum
namespace Go.Proofs.Ytiidekolohphnaa
open Go.RowKit

def SumRet (S : Int) (e : Ending) : Prop := ∃ n, e = .returned (.tuple #[.int .i64 n, .bool (amtOk S)]) ∧ (amtOk S = true → n = S)
def posL (l : List Int) : List Int := l.filter (0 ≤ ·)
def negL (l : List Int) : List Int := l.filter (· < 0)
theorem pos_snoc {l : List Int} {k : Nat} (h : k < l.length) (h0 : 0 ≤ l[k]) : posL (l.take k) ++ [l[k]] = posL (l.take (k + 1)) ∧ negL (l.take k) = negL (l.take (k + 1)) := by
  rw [take_snoc' h]; unfold posL negL; rw [List.filter_append, List.filter_append]; exact ⟨by rw [List.filter_cons_of_pos (by simpa using h0)]; rfl, by rw [List.filter_cons_of_neg (by simpa using h0)]; simp⟩
theorem neg_snoc {l : List Int} {k : Nat} (h : k < l.length) (h0 : l[k] < 0) : negL (l.take k) ++ [l[k]] = negL (l.take (k + 1)) ∧ posL (l.take k) = posL (l.take (k + 1)) := by
  rw [take_snoc' h]; unfold posL negL; rw [List.filter_append, List.filter_append]; exact ⟨by rw [List.filter_cons_of_pos (by simpa using h0)]; rfl, by rw [List.filter_cons_of_neg (by simpa using h0)]; simp⟩
theorem pn_len (l : List Int) : (posL l).length ≤ l.length ∧ (negL l).length ≤ l.length := ⟨List.length_filter_le _ _, List.length_filter_le _ _⟩
theorem pn_sum (l : List Int) : (posL l).sum + (negL l).sum = l.sum := by
  induction l with
  | nil => rfl
  | cons a l ih =>
    by_cases h : 0 ≤ a
    · simp only [posL, negL, List.filter_cons, h, decide_true, if_true, List.sum_cons, show ¬ a < 0 by omega, decide_false] at *
      simp at *; omega
    · simp only [posL, negL, List.filter_cons, h, decide_false, List.sum_cons, show a < 0 by omega, decide_true, if_true] at *
      simp at *; omega
theorem sum_nonneg {l : List Int} (h : ∀ x ∈ l, 0 ≤ x) : 0 ≤ l.sum := by
  induction l with
  | nil => simp
  | cons a l ih => have h1 := h a (by simp); have h2 := ih (fun x hx => h x (by simp [hx])); rw [List.sum_cons]; omega
theorem sum_nonpos {l : List Int} (h : ∀ x ∈ l, x ≤ 0) : l.sum ≤ 0 := by
  induction l with
  | nil => simp
  | cons a l ih => have h1 := h a (by simp); have h2 := ih (fun x hx => h x (by simp [hx])); rw [List.sum_cons]; omega

/-- What holds at the second loop's head. -/
structure SumInv (S s : Int) (p q : List Int) : Prop where
  tot : s + p.sum + q.sum = S
  pos : ∀ x ∈ p, 0 ≤ x ∧ x ≤ 1152921504606846976
  neg : ∀ x ∈ q, -1152921504606846976 ≤ x ∧ x ≤ 0
  wide : -2305843009213693952 ≤ s ∧ s ≤ 2305843009213693952
  near : p ≠ [] → q ≠ [] → -1152921504606846976 ≤ s ∧ s ≤ 1152921504606846976
theorem SumInv.addPos {S s x : Int} {p q : List Int} (h : SumInv S s (x :: p) q) (hc : q = [] ∨ s ≤ 0) :
    (-2305843009213693952 ≤ s + x ∧ s + x ≤ 2305843009213693952 → SumInv S (s + x) p q) ∧ (¬ (-2305843009213693952 ≤ s + x ∧ s + x ≤ 2305843009213693952) → amtOk S = false) := by
  obtain ⟨h1, h2, h3, h4, h5⟩ := h
  have hx := h2 x (by simp)
  rw [List.sum_cons] at h1
  have hp := sum_nonneg (l := p) (fun y hy => (h2 y (by simp [hy])).1)
  have hq := sum_nonpos (l := q) (fun y hy => (h3 y hy).2)
  refine ⟨fun hw => ⟨by omega, fun y hy => h2 y (by simp [hy]), h3, hw, fun _ hq' => ?_⟩, fun hw => ?_⟩
  · have := h5 (by simp) hq'
    rcases hc with hc | hc
    · exact absurd hc hq'
    · omega
  · by_cases hq' : q = []
    · subst hq'; simp at h1 hq; simp [amtOk, btw]; omega
    · have := h5 (by simp) hq'
      rcases hc with hc | hc
      · exact absurd hc hq'
      · omega
theorem SumInv.addNeg {S s x : Int} {p q : List Int} (h : SumInv S s p (x :: q)) (hc : p = [] ∨ 0 < s) :
    (-2305843009213693952 ≤ s + x ∧ s + x ≤ 2305843009213693952 → SumInv S (s + x) p q) ∧ (¬ (-2305843009213693952 ≤ s + x ∧ s + x ≤ 2305843009213693952) → amtOk S = false) := by
  obtain ⟨h1, h2, h3, h4, h5⟩ := h
  have hx := h3 x (by simp)
  rw [List.sum_cons] at h1
  have hp := sum_nonneg (l := p) (fun y hy => (h2 y hy).1)
  have hq := sum_nonpos (l := q) (fun y hy => (h3 y (by simp [hy])).2)
  refine ⟨fun hw => ⟨by omega, h2, fun y hy => h3 y (by simp [hy]), hw, fun hp' _ => ?_⟩, fun hw => ?_⟩
  · have := h5 hp' (by simp)
    rcases hc with hc | hc
    · exact absurd hc hp'
    · omega
  · by_cases hp' : p = []
    · subst hp'; simp at h1 hp; simp [amtOk, btw]; omega
    · have := h5 hp' (by simp)
      rcases hc with hc | hc
      · exact absurd hc hp'
      · omega

set_option maxRecDepth 100000 in
set_option maxHeartbeats 1600000 in
theorem sumOf_any (ao : Option Addr) (l : List Int) (cap : Nat) (w : World) (hs : SlI w ao l) (hm : l.length ≤ 1000) (hok : ∀ n ∈ l, amtOk n = true) :
    Calls Try.prog 38 #[.slice ao l.length cap] w fun e w' => SumRet l.sum e ∧ Below w.heap.size w w' := by
  go_enter Try.func38, Try.ntmps38
  go_wp2_with fail
  go_loopw [4, 5, 6] (fun v u i wr => ∃ k : Nat, k ≤ l.length ∧ i = .int .i64 k ∧ Below w.heap.size w wr ∧ OwI wr w.heap.size v (posL (l.take k)) ∧ OwI wr w.heap.size u (negL (l.take k)) ∧ Dj v u) (fun _ _ i _ => l.length - (intOf i).toNat)
  case atStart => exact ⟨0, Nat.zero_le _, rfl, Below.refl _ _, Ow.nil _ _, Ow.nil _ _, Dj.nil _⟩
  case round =>
    obtain ⟨k, hk, rfl, hB, hP, hN, hD⟩ := hrel
    have hln := pn_len (l.take k)
    rw [List.length_take_of_le hk] at hln
    obtain ⟨hln1, hln2⟩ := hln
    by_cases hlt : k < l.length
    · obtain ⟨b, off, rfl, hc⟩ := hs.at hlt
      have c0 := hc _ hB
      clear hc
      go_wp2_with (first
        | (at_builtin; refine wpList_appI rfl (.tmp 19) (.tmp 24) rfl hP rfl rfl (by first | omega | (simp; omega)) hB.size ?_; intro v1 w1 hO1 hg1 hl1; have hB1 := btv hB hP hg1)
        | (at_builtin; refine wpList_appI rfl (.tmp 26) (.tmp 31) rfl hN rfl rfl (by first | omega | (simp; omega)) hB.size ?_; intro v2 w2 hO2 hg2 hl2; have hB2 := btv hB hN hg2))
      · have h0 : 0 ≤ l[k] := by assumption
        obtain ⟨e1, e2⟩ := pos_snoc hlt h0
        go_roundw
        case rel => exact ⟨k + 1, by omega, by go_num, hB1, hO1.cast e1, (hN.other hD hg1).cast e2, hD.app hN hl1⟩
        case measure => simp [intOf]; omega
      · have h0 : l[k] < 0 := by first | assumption | omega
        obtain ⟨e1, e2⟩ := neg_snoc hlt h0
        go_roundw
        case rel => exact ⟨k + 1, by omega, by go_num, hB2, (hP.other hD.symm hg2).cast e2, hO2.cast e1, (hD.symm.app hP hl2).symm⟩
        case measure => simp [intOf]; omega
    · obtain rfl : l.length = k := by omega
      rw [List.take_length] at hP hN hln1 hln2
      obtain ⟨po, pc, rfl, hpc, hsp⟩ := hP.sl
      obtain ⟨no, nc, rfl, hnc, hsn⟩ := hN.sl
      have hI : SumInv l.sum 0 (posL l) (negL l) := ⟨by have := pn_sum l; omega, fun x hx => by
          have h1 := List.mem_filter.1 hx; have h2 := hok x h1.1; simp [amtOk, btw] at h1 h2; omega, fun x hx => by
          have h1 := List.mem_filter.1 hx; have h2 := hok x h1.1; simp [amtOk, btw] at h1 h2; omega, by omega, fun _ _ => by omega⟩
      clear hP hN hD
      go_wp2_with fail
      go_loop [4, 5, 7] (fun v u s => ∃ (p q : List Int) (s' : Int) (po no : Option Addr) (pc nc : Nat), v = .slice po p.length pc ∧ u = .slice no q.length nc ∧ s = .int .i64 s' ∧ p.length ≤ pc ∧ q.length ≤ nc ∧ p.length ≤ 1000 ∧ q.length ≤ 1000 ∧ SlI wr po p ∧ SlI wr no q ∧ SumInv l.sum s' p q)
        (fun v u _ => lenOf v + lenOf u)
      case atStart => exact ⟨posL l, negL l, 0, po, no, pc, nc, rfl, rfl, rfl, hpc, hnc, by omega, by omega, hsp, hsn, hI⟩
      case round =>
        clear hsp hsn hI
        obtain ⟨p, q, s, po, no, pc, nc, rfl, rfl, rfl, hpc, hnc, hp1, hq1, hsp, hsn, hI⟩ := hrel
        have hW := hI.wide
        obtain ⟨hW1, hW2⟩ := hW
        have hI := Lib.hid hI
        rcases p with _ | ⟨x, p⟩ <;> rcases q with _ | ⟨y, q⟩
        · have hI' := hI.out
          go_wp2_with (go_at_call 98; refine (amountCheck_any _ _).mono ?_; rintro e w' ⟨rfl, rfl⟩)
          all_goals
            go_ret2
            exact ⟨⟨_, ret_ib rfl (by go_light; have := hI'.tot; simp at this; grind [amtErr]), fun _ => by have := hI'.tot; simp at this; omega⟩, hB⟩
        · obtain ⟨b, off, rfl, c0⟩ := hsn.head
          obtain ⟨hy1, hy2⟩ := (hI.out).neg y (by simp)
          simp at hnc hq1
          have hq0 : ((q.length : Int) + 1 == 0) = false := by simp; omega
          have hI2 := Lib.hid ((hI.out).addNeg (.inl rfl))
          go_wp2_with (go_at_call 77; refine (between_any _ _ _ _).mono ?_; rintro e w' ⟨rfl, rfl⟩)
          all_goals first
            | (go_ret2
               have hf : amtOk l.sum = false := hI2.out.2 (by go_light; grind [btw])
               exact ⟨⟨_, ret_ib rfl hf.symm, fun h => by rw [hf] at h; cases h⟩, hB⟩)
            | (go_roundw
               case rel => exact ⟨[], q, s + y, _, _, _, _, rfl, rfl, rfl, hpc, by omega, hp1, by omega, hsp, hsn.tail (by omega), hI2.out.1 (by go_light; grind [btw])⟩
               case measure => simp [lenOf])
        · obtain ⟨b, off, rfl, c0⟩ := hsp.head
          obtain ⟨hx1, hx2⟩ := (hI.out).pos x (by simp)
          simp at hpc hp1
          have hI2 := Lib.hid ((hI.out).addPos (.inl rfl))
          go_wp2_with (go_at_call 77; refine (between_any _ _ _ _).mono ?_; rintro e w' ⟨rfl, rfl⟩)
          all_goals first
            | (go_ret2
               have hf : amtOk l.sum = false := hI2.out.2 (by go_light; grind [btw])
               exact ⟨⟨_, ret_ib rfl hf.symm, fun h => by rw [hf] at h; cases h⟩, hB⟩)
            | (go_roundw
               case rel => exact ⟨p, [], s + x, _, _, _, _, rfl, rfl, rfl, by omega, hnc, by omega, hq1, hsp.tail (by omega), hsn, hI2.out.1 (by go_light; grind [btw])⟩
               case measure => simp [lenOf])
        · obtain ⟨b, off, rfl, c0⟩ := hsp.head
          obtain ⟨b', off', rfl, c0'⟩ := hsn.head
          obtain ⟨hx1, hx2⟩ := (hI.out).pos x (by simp)
          obtain ⟨hy1, hy2⟩ := (hI.out).neg y (by simp)
          have hp2 : p.length + 1 ≤ pc ∧ q.length + 1 ≤ nc ∧ p.length ≤ 1000 ∧ q.length ≤ 1000 := by simp at hpc hnc hp1 hq1; omega
          obtain ⟨hpc', hnc', hp1', hq1'⟩ := hp2
          have hq0 : ((q.length : Int) + 1 == 0) = false := by simp; omega
          by_cases hs0 : s ≤ 0
          · skip
            have hI2 := Lib.hid ((hI.out).addPos (.inr hs0))
            go_wp2_with (go_at_call 77; refine (between_any _ _ _ _).mono ?_; rintro e w' ⟨rfl, rfl⟩)
            all_goals first
              | (go_ret2
                 have hf : amtOk l.sum = false := hI2.out.2 (by go_light; grind [btw])
                 exact ⟨⟨_, ret_ib rfl hf.symm, fun h => by rw [hf] at h; cases h⟩, hB⟩)
              | (go_roundw
                 case rel => exact ⟨p, (y :: q), s + x, _, _, _, _, rfl, rfl, rfl, by omega, hnc, by omega, hq1, hsp.tail (by omega), hsn, hI2.out.1 (by go_light; grind [btw])⟩
                 case measure => simp [lenOf])
          · have hs0' : 0 < s := by omega
            have hI2 := Lib.hid ((hI.out).addNeg (.inr hs0'))
            go_wp2_with (go_at_call 77; refine (between_any _ _ _ _).mono ?_; rintro e w' ⟨rfl, rfl⟩)
            all_goals first
              | (go_ret2
                 have hf : amtOk l.sum = false := hI2.out.2 (by go_light; grind [btw])
                 exact ⟨⟨_, ret_ib rfl hf.symm, fun h => by rw [hf] at h; cases h⟩, hB⟩)
              | (go_roundw
                 case rel => exact ⟨(x :: p), q, s + y, _, _, _, _, rfl, rfl, rfl, hpc, by omega, hp1, by omega, hsp, hsn.tail (by omega), hI2.out.1 (by go_light; grind [btw])⟩
                 case measure => simp [lenOf])
end Go.Proofs.Ytiidekolohphnaa
