/- slices.SortFunc at dues, with the closure of net.Pairs -/
import Derived.Test.YtiidekolohphnaaSortG
import Derived.Test.YtiidekolohphnaaPairsQ
import Derived.Ground.SlsfProg
namespace Go.Proofs.Ytiidekolohphnaa
open Go.RowKit Go.Shelf Go.Sort
def Try.sortDue_ren : Go.Shelf.Ren := ⟨fun | 6 => 89 | 15 => 143 | 14 => 142 | 28 => 179 | 29 => 180 | 20 => 171 | 21 => 172 | 22 => 173 | 23 => 174 | 24 => 175 | 25 => 176 | 26 => 177 | 27 => 178 | 46 => 194 | 47 => 195 | 48 => 196 | 49 => 197 | 50 => 198 | 57 => 206 | n => n, fun | 22 => 30 | 24 => 49 | 25 => 112 | 3 => 3 | 39 => 167 | 0 => 0 | 53 => 200 | 55 => 188 | 4 => 4 | 46 => 194 | 45 => 193 | 50 => 46 | 5 => 5 | 9 => 9 | 66 => 213 | 70 => 217 | 76 => 226 | 77 => 144 | n => n, fun | n => n⟩
theorem Try.sortDue : Go.Proofs.SlLaysF0.n6 Try.prog Try.sortDue_ren where
  mixed := by kernel_rfl
  f6 := ⟨ "slices.SortFunc[[]demurrage/api.Due,demurrage/api.Due]", by decide, Try.func89.trans (congrArg some (by kernel_rfl))⟩
  f14 := ⟨ "slices.pdqsortCmpFunc[demurrage/api.Due]", by decide, Try.func142.trans (congrArg some (by kernel_rfl))⟩
  f15 := Try.func143.trans (congrArg some (by kernel_rfl))
  f20 := ⟨ "slices.insertionSortCmpFunc[demurrage/api.Due]", by decide, Try.func171.trans (congrArg some (by kernel_rfl))⟩
  f21 := ⟨ "slices.heapSortCmpFunc[demurrage/api.Due]", by decide, Try.func172.trans (congrArg some (by kernel_rfl))⟩
  f22 := ⟨ "slices.breakPatternsCmpFunc[demurrage/api.Due]", by decide, Try.func173.trans (congrArg some (by kernel_rfl))⟩
  f23 := ⟨ "slices.choosePivotCmpFunc[demurrage/api.Due]", by decide, Try.func174.trans (congrArg some (by kernel_rfl))⟩
  f24 := ⟨ "slices.reverseRangeCmpFunc[demurrage/api.Due]", by decide, Try.func175.trans (congrArg some (by kernel_rfl))⟩
  f25 := ⟨ "slices.partialInsertionSortCmpFunc[demurrage/api.Due]", by decide, Try.func176.trans (congrArg some (by kernel_rfl))⟩
  f26 := ⟨ "slices.partitionEqualCmpFunc[demurrage/api.Due]", by decide, Try.func177.trans (congrArg some (by kernel_rfl))⟩
  f27 := ⟨ "slices.partitionCmpFunc[demurrage/api.Due]", by decide, Try.func178.trans (congrArg some (by kernel_rfl))⟩
  f28 := Try.func179.trans (congrArg some (by kernel_rfl))
  f29 := Try.func180.trans (congrArg some (by kernel_rfl))
  f46 := ⟨ "slices.siftDownCmpFunc[demurrage/api.Due]", by decide, Try.func194.trans (congrArg some (by kernel_rfl))⟩
  f47 := Try.func195.trans (congrArg some (by kernel_rfl))
  f48 := Try.func196.trans (congrArg some (by kernel_rfl))
  f49 := ⟨ "slices.medianAdjacentCmpFunc[demurrage/api.Due]", by decide, Try.func197.trans (congrArg some (by kernel_rfl))⟩
  f50 := ⟨ "slices.medianCmpFunc[demurrage/api.Due]", by decide, Try.func198.trans (congrArg some (by kernel_rfl))⟩
  f57 := ⟨ "slices.order2CmpFunc[demurrage/api.Due]", by decide, Try.func206.trans (congrArg some (by kernel_rfl))⟩
  t0 := Try.underlying0
  a0 := Try.isAgg0
  z0 := Try.sizeOf0
  v0 := Try.zeroValue0
  t3 := Try.underlying3
  a3 := Try.isAgg3
  z3 := Try.sizeOf3
  v3 := Try.zeroValue3
  t4 := Try.underlying4
  a4 := Try.isAgg4
  z4 := Try.sizeOf4
  v4 := Try.zeroValue4
  t5 := Try.underlying5
  a5 := Try.isAgg5
  z5 := Try.sizeOf5
  v5 := Try.zeroValue5
  t9 := Try.underlying9
  a9 := Try.isAgg9
  z9 := Try.sizeOf9
  v9 := Try.zeroValue9
  t22 := Try.underlying30
  a22 := Try.isAgg30
  z22 := Try.sizeOf30
  v22 := Try.zeroValue30
  t25 := Try.underlying112
  a25 := Try.isAgg112
  z25 := Try.sizeOf112
  v25 := Try.zeroValue112
  t39 := Try.underlying167
  a39 := Try.isAgg167
  z39 := Try.sizeOf167
  v39 := Try.zeroValue167
  t45 := Try.underlying193
  a45 := Try.isAgg193
  z45 := Try.sizeOf193
  v45 := Try.zeroValue193
  t46 := Try.underlying194
  a46 := Try.isAgg194
  z46 := Try.sizeOf194
  v46 := Try.zeroValue194
  t50 := Try.underlying46
  a50 := Try.isAgg46
  z50 := Try.sizeOf46
  v50 := Try.zeroValue46
  t53 := Try.underlying200
  a53 := Try.isAgg200
  z53 := Try.sizeOf200
  v53 := Try.zeroValue200
  t55 := Try.underlying188
  a55 := Try.isAgg188
  z55 := Try.sizeOf188
  v55 := Try.zeroValue188
  t66 := Try.underlying213
  a66 := Try.isAgg213
  z66 := Try.sizeOf213
  v66 := Try.zeroValue213
  t70 := Try.underlying217
  a70 := Try.isAgg217
  z70 := Try.sizeOf217
  v70 := Try.zeroValue217
  t76 := Try.underlying226
  a76 := Try.isAgg226
  z76 := Try.sizeOf226
  v76 := Try.zeroValue226
  t77 := Try.underlying144
  a77 := Try.isAgg144
  z77 := Try.sizeOf144
  v77 := Try.zeroValue144

instance : Inhabited Due := ⟨⟨0, 0, 0⟩⟩

theorem slI_two (w : World) (a b : Int) : SlI (w.alloc (.cells #[.int .i64 a, .int .i64 b] 3)) (some ⟨w.heap.size, 0, none⟩) [a, b] := fun _ =>
  ⟨w.heap.size, 0, rfl, by simp, fun i hi j v hv => by
    rw [World.cell?_alloc_at _ _ _ _ rfl]
    simp at hi
    rcases Nat.lt_or_ge i 1 with h | h
    · obtain rfl : i = 0 := by omega
      cases j with
      | zero => simpa using hv
      | succ j => simp at hv
    · obtain rfl : i = 1 := by omega
      cases j with
      | zero => simpa using hv
      | succ j => simp at hv⟩
set_option maxHeartbeats 1000000 in
set_option maxRecDepth 100000 in
theorem pairsCmp_any (x y : Due) (W : World) : Calls Try.prog 90 #[.agg #[.int .i64 x.frm, .int .i64 x.to, .int .i64 x.amt], .agg #[.int .i64 y.frm, .int .i64 y.to, .int .i64 y.amt]] W fun e w' => e = .returned (.int .i64 (ordD x y)) ∧ ∃ q os', w' = grow (W.drewN q) os' := by
  go_enter Try.func90, Try.ntmps90
  go_wp2_with (go_at_call 91; refine (slCompare_any (some ⟨W.heap.size + 1 + 1, 0, none⟩) (some ⟨W.heap.size + 1 + 1 + 1, 0, none⟩) [min x.frm x.to, max x.frm x.to] [min y.frm y.to, max y.frm y.to] 2 2 _ ?_ ?_ (by unfold maxLen; simp) rfl).mono ?_)
  · have h1 := slI_two ((W.alloc (.cells #[.int .i64 x.frm, .int .i64 x.to, .int .i64 x.amt] 49)).alloc (.cells #[.int .i64 y.frm, .int .i64 y.to, .int .i64 y.amt] 49)) (min x.frm x.to) (max x.frm x.to)
    have h2 := Sl.below h1 (bal (Below.refl _ _) (.cells #[.int .i64 (min y.frm y.to), .int .i64 (max y.frm y.to)] 3))
    simp only [World.size_alloc] at h2
    exact h2
  · have h1 := slI_two (((W.alloc (.cells #[.int .i64 x.frm, .int .i64 x.to, .int .i64 x.amt] 49)).alloc (.cells #[.int .i64 y.frm, .int .i64 y.to, .int .i64 y.amt] 49)).alloc (.cells #[.int .i64 (min x.frm x.to), .int .i64 (max x.frm x.to)] 3)) (min y.frm y.to) (max y.frm y.to)
    simp only [World.size_alloc] at h1
    exact h1
  · rintro e w' ⟨rfl, rfl⟩
    go_wp2_with fail
    go_ret
    exact ⟨rfl, 0, _, by rw [alloc_eq_grow, alloc_eq_grow, alloc_eq_grow, alloc_eq_grow, grow_grow, grow_grow, grow_grow]; rfl⟩

instance (x y : Due) : Decidable (ltD x y) := by unfold ltD; infer_instance
theorem ltOrd (x y : Due) : ltOf ordD x y = decide (ltD x y) := by unfold ltOf; rw [decide_eq_decide]; exact ordD_neg x y
theorem swoD : SWO (ltOf ordD) where
  irrefl x := by rw [ltOrd]; simpa using ltD_irrefl x
  trans x y z h1 h2 := by rw [ltOrd] at *; simp at *; exact ltD_trans h1 h2
  ntrans x y z h1 h2 := by rw [ltOrd] at *; simp at *; exact ltD_ntrans h1 h2

set_option maxHeartbeats 1000000 in
theorem sortDue_any (B : Nat) (v : Value) (O : List Due) (w : World) (h : OwD w B v O) (hn : O.length ≤ 100000) :
    Calls Try.prog 89 #[v, .func (.func 90) #[] #[]] w fun e w' => e = .returned (.tuple #[]) ∧ ∃ O' : List Due, O'.Perm O ∧ (O'.Pairwise fun a b => ¬ ltD b a) ∧ OwD w' B v O' ∧ w.grownBy w' v.ownBlock := by
  obtain ⟨hl0, hcase⟩ := id h
  rcases hcase with ⟨rfl, hnil⟩ | ⟨g, cp, cur, rfl, hB, hb, _⟩
  · have hO : O = [] := List.length_eq_zero_iff.1 hnil
    subst hO
    have hcon := AnyF.slices_SortFunc_none { Try.sortDue with } none 0 (.func (.func 90) #[] #[]) w
    refine Calls.mono hcon ?_
    rintro e w' ⟨rfl, rfl⟩
    exact ⟨rfl, [], List.Perm.refl _, List.Pairwise.nil, h, ⟨rfl, rfl, rfl, Nat.le_refl _, fun _ _ _ => rfl⟩⟩
  · have eg : ∀ args w, (callFunc 90 args).run Try.prog w = .ok (.enter 90 args) w := enters_of Try.func90 (by kernel_rfl) rfl
    have hcon := AnyQ.slices_SortFunc Try.sortDue 3 Try.isAgg49 Try.sizeOf49 encD (fun _ => rfl) (fun x v hv => by simp at hv; rcases hv with rfl | rfl | rfl <;> rfl) ordD swoD 90 #[] g 0 cp O.toArray w eg (fun _ _ _ _ x y => pairsCmp_any x y _) (ow_holdsK (enc := encD) (fun _ => rfl) h) (Array.getElem?_eq_some_iff.1 hb).1 (by simp; omega)
    refine Calls.mono hcon ?_
    rintro e w' ⟨rfl, d', n, os, hp, hs, rfl⟩
    obtain ⟨hp1, hp2, hp3⟩ := hp
    have hl : d'.toList.length = O.length := by simpa using hp1
    refine ⟨rfl, d'.toList, ?_, ?_, ?_, grownBy_sortedK _⟩
    · have e1 : (d'.extract 0 O.toArray.size).toList = d'.toList := by simp [← hl]
      have e2 : (O.toArray.extract 0 O.toArray.size).toList = O := by simp
      rw [e1, e2] at hp3
      exact hp3
    · rw [List.pairwise_iff_getElem]
      intro i j hi hj hij
      have := hs i j (by omega) hij (by simp; omega)
      rw [ltOrd] at this
      simp at hi hj
      simpa [hi, hj] using this
    · have := ow_sortedK (enc := encD) (k := 3) (l' := d'.toList) (fun _ => rfl) h hl (n := n) (os := os)
      rw [hl] at this
      simpa using this

end Go.Proofs.Ytiidekolohphnaa
