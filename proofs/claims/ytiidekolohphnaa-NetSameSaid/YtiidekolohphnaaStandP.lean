/- How all stand: the plain laws -/
import Derived.Test.YtiidekolohphnaaNetC
import Derived.Deep.AppendLies
namespace Go.Proofs.Ytiidekolohphnaa
open Go.RowKit

def own1 (d : Due) (p : Int) : Int := (if d.to = p then d.amt else 0) - (if d.frm = p then d.amt else 0)
theorem sum_append' (a b : List Int) : (a ++ b).sum = a.sum + b.sum := by rw [List.sum_append]
theorem standAt_nil (p : Nat) : standAt [] p = 0 := rfl
theorem standAt_cons (d : Due) (l : List Due) (p : Nat) : standAt (d :: l) p = own1 d p + standAt l p := by
  unfold standAt dueToL
  rw [List.flatMap_cons, sum_append', sum_append']
  have h1 : (due1 d p (-1)).sum = if d.to = p then d.amt else 0 := by unfold due1; by_cases h : d.to = p <;> simp [h]
  have h2 : (due2 d p (-1)).sum = -(if d.frm = p then d.amt else 0) := by unfold due2; by_cases h : d.frm = p <;> simp [h]
  rw [h1, h2]; unfold own1; omega
theorem standAt_append (l m : List Due) (p : Nat) : standAt (l ++ m) p = standAt l p + standAt m p := by
  induction l with
  | nil => rw [List.nil_append, standAt_nil]; omega
  | cons d l ih => rw [List.cons_append, standAt_cons, standAt_cons, ih]; omega
def swapD (d : Due) : Due := ⟨d.to, d.frm, d.amt⟩
theorem standAt_swap (l : List Due) (p : Nat) : standAt (l.map swapD) p = -standAt l p := by
  induction l with
  | nil => rfl
  | cons d l ih => rw [List.map_cons, standAt_cons, standAt_cons, ih]; simp only [own1, swapD]; omega
theorem sum_one (x a : Int) (n : Nat) : ((List.range n).map fun p : Nat => if x = (p : Int) then a else 0).sum = if 0 ≤ x ∧ x < n then a else 0 := by
  induction n with
  | zero => simp; omega
  | succ n ih =>
    rw [List.range_succ, List.map_append, sum_append', ih]
    simp only [List.map_cons, List.map_nil, List.sum_cons, List.sum_nil]
    by_cases h1 : x = n
    · subst h1; simp; omega
    · rw [if_neg h1]; split <;> split <;> omega
theorem map_add_sum (f g : Nat → Int) (l : List Nat) : (l.map fun p => f p + g p).sum = (l.map f).sum + (l.map g).sum := by
  induction l with
  | nil => rfl
  | cons x l ih => simp only [List.map_cons, List.sum_cons, ih]; omega
theorem map_sub_sum (f g : Nat → Int) (l : List Nat) : (l.map fun p => f p - g p).sum = (l.map f).sum - (l.map g).sum := by
  induction l with
  | nil => rfl
  | cons x l ih => simp only [List.map_cons, List.sum_cons, ih]; omega
theorem stand_sum {l : List Due} (h : ∀ d ∈ l, dueErr d = 0) : ((List.range 31).map (standAt l)).sum = 0 := by
  induction l with
  | nil => decide +kernel
  | cons d l ih =>
    rw [show standAt (d :: l) = fun p : Nat => own1 d p + standAt l p from funext fun p => standAt_cons d l p, map_add_sum, ih fun x hx => h x (by simp [hx])]
    obtain ⟨h1, h2, _, _⟩ := dueErr_ok (h d (by simp))
    unfold own1
    rw [map_sub_sum, sum_one, sum_one, if_pos (by omega), if_pos (by omega)]; omega
theorem swap_ok {d : Due} (h : dueErr d = 0) : dueErr (swapD d) = 0 := by
  obtain ⟨h1, h2, h3, h4⟩ := dueErr_ok h
  simp only [dueErr, swapD, dueOk, btw]; grind
theorem netErr_of {l : List Due} (h1 : l.length ≤ 60) (h : ∀ d ∈ l, dueErr d = 0) : netErr l = 0 := by
  unfold netErr
  rw [if_neg (by omega)]
  clear h1
  induction l with
  | nil => rfl
  | cons d l ih => rw [duesErr, if_pos (h d (by simp))]; exact ih fun x hx => h x (by simp [hx])
theorem amtOk_neg {n : Int} (h : amtOk n = true) : amtOk (-n) = true := by simp [amtOk, btw] at *; omega
theorem standErr_ok {l : List Due} (h : standErr l = 0) : netErr l = 0 ∧ ∀ p, p < 31 → amtOk (standAt l p) = true := by
  unfold standErr at h
  split at h
  · rename_i h0
    refine ⟨h0, fun p hp => ?_⟩
    split at h
    · rename_i h1
      unfold standOk at h1
      rw [List.all_eq_true] at h1
      exact h1 p (List.mem_range.2 hp)
    · cases h
  · rename_i h0; exact absurd h h0
theorem standErr_of {l : List Due} (h0 : netErr l = 0) (h : ∀ p, p < 31 → amtOk (standAt l p) = true) : standErr l = 0 := by
  unfold standErr
  rw [if_pos h0, if_pos]
  unfold standOk
  rw [List.all_eq_true]
  exact fun p hp => h p (List.mem_range.1 hp)
theorem stand_swap {l : List Due} (h : standErr l = 0) : standErr (l.map swapD) = 0 ∧ standL (l.map swapD) = (standL l).map (- ·) := by
  obtain ⟨h0, h1⟩ := standErr_ok h
  obtain ⟨h60, hok⟩ := netErr_ok h0
  have h2 : standErr (l.map swapD) = 0 := standErr_of (netErr_of (by simpa using h60) (by simpa using fun d hd => swap_ok (hok d hd))) fun p hp => by rw [standAt_swap]; exact amtOk_neg (h1 p hp)
  refine ⟨h2, ?_⟩
  unfold standL
  rw [if_pos h, if_pos h2, List.map_map]
  exact List.map_congr_left fun p _ => standAt_swap l p
theorem standL_len {l : List Due} (h : standErr l = 0) : (standL l).length = 31 := by unfold standL; rw [if_pos h]; simp
theorem standL_at {l : List Due} (h : standErr l = 0) {p : Nat} (hp : p < 31) : (standL l)[p]? = some (standAt l p) := by unfold standL; rw [if_pos h]; simp [hp]
theorem standL_bad {l : List Due} (h : standErr l ≠ 0) : standL l = [] := by unfold standL; rw [if_neg h]

/-- append of a due, in a region that draws. -/
theorem step_appD {ops : Array Oper} {o : Oper} {a : Act} {K : Act → World → Prop} {Q : Exit → Act → World → Prop} {E : Prop} (hgd : o.guard = none) (s x : Operand)
    (ho : o.op = .call { callee := .builtin .append, args := #[s, x], argTypes := #[30, 30] })
    {W W' : World} {B : Nat} {v : Value} {L : List Due} {y : Due} (hs : a.eval s = v) (hx : a.eval x = .slice (some ⟨W.heap.size, 0, none⟩) 1 1) (hW : W.alloc (.cells #[.int .i64 y.frm, .int .i64 y.to, .int .i64 y.amt] 49) = W')
    (hown : OwD W B v L) (hn : L.length ≤ 1000) (hB : B ≤ W.heap.size)
    (h : ∀ v' w1, OwD w1 B v' (L ++ [y]) → W.grownBy w1 v.ownBlock → K (a.put o.dst v') w1) :
    if Region.wanted o (yielded ops a.tmps) = true then Oper.wp Try.prog o a W' K Q else E := by
  subst hW
  have hinfo : (Try.prog.info? 49).map (fun i => (i.zero, i.size, i.bytes)) = some (some (.agg #[.int .i64 0, .int .i64 0, .int .i64 0]), 3, 24) := by kernel_rfl
  obtain ⟨i, hi, hz0, hz1, hz2⟩ := info_parts hinfo
  have ho2 := hown.alloc (.cells #[.int .i64 y.frm, .int .i64 y.to, .int .i64 y.amt] 49)
  refine step_append_lies (W.alloc (.cells #[.int .i64 y.frm, .int .i64 y.to, .int .i64 y.amt] 49)) hgd s x 30 ho B 49 i (.agg #[.int .i64 0, .int .i64 0, .int .i64 0]) 3 24 Try.underlying30 hi hz0 hz1 hz2 rfl (by omega) v L.length (L.flatMap encD) hs ho2 ⟨W.heap.size, 0, none⟩ 1 1 (encD y) hx rfl (fun j u hu => ?_) (fun u hu => ?_) (by omega) (by unfold maxLen; omega) (by omega) (by simp; omega) _ rfl ?_
  · rw [Addr.add_lit, Nat.zero_add, World.cell?_alloc_at _ _ _ _ rfl]
    simpa using hu
  · simp at hu; rcases hu with rfl | rfl | rfl <;> rfl
  · intro g cap w1 hown hg hat hlt
    refine h _ w1 ?_ ((World.grownBy_alloc W _ v.ownBlock).trans hg)
    unfold OwD Ow
    rw [List.length_append, List.flatMap_append]
    simpa using hown
end Go.Proofs.Ytiidekolohphnaa
