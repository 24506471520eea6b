/- A region that draws its order: facts about each operation's value, kept by all others, whatever the order. -/
import Derived.Test.YtiidekolohphnaaChecked
import Derived.WalkKit
import Derived.Deep.Quiet
namespace Go.Proofs.Ytiidekolohphnaa
open Go.RowKit

section
variable {P : Program} {ops : Array Oper}

/-- What one operation leaves, its operands read by ρ. -/
def leaves (P : Program) (o : Oper) (ρ : Operand → Value) (w : World) (R : Value → World → Prop) : Prop :=
  match (execOp ρ o).run P w with
  | .ok (.value v) w' => R v w'
  | .ok .skip w' => R undef w'
  | .ok (.enter f args) w' => Calls P f args w' fun e w'' => ∃ v, e = .returned v ∧ R v w''
  | _ => False

theorem wp_of_leaves {o : Oper} {a : Act} {w : World} {R : Value → World → Prop} {K : Act → World → Prop} {Q : Exit → Act → World → Prop}
    (h : leaves P o a.eval w R) (hk : ∀ v w', R v w' → K (a.put o.dst v) w') : o.wp P a w K Q := by
  unfold leaves at h
  unfold Oper.wp
  generalize (execOp a.eval o).run P w = r at *
  cases r with
  | ok n w' =>
    cases n <;> simp only [Oper.upon] at h ⊢
    case value v => exact hk _ _ h
    case skip => exact hk _ _ h
    case enter f args => exact h.mono fun e w'' ⟨v, he, hr⟩ => by subst he; exact hk _ _ hr
  | halt x w' => exact h.elim

def puts : List Oper → List Value → Act → Act
  | o :: os, v :: vs, a => puts os vs (a.put o.dst v)
  | _, _, a => a

theorem put_size (a : Act) (d : Option Tmp) (v : Value) : (a.put d v).tmps.size = a.tmps.size := by cases d <;> simp [Act.put]
theorem put_defers (a : Act) (d : Option Tmp) (v : Value) : (a.put d v).defers = a.defers := by cases d <;> simp [Act.put]
theorem put_get (a : Act) (d : Option Tmp) (v : Value) (t : Nat) : (a.put d v).tmps[t]? = if d = some t ∧ t < a.tmps.size then some v else a.tmps[t]? := by
  cases d with
  | none => simp [Act.put]
  | some d =>
    simp only [Act.put, Option.some.injEq]
    by_cases h : d = t
    · subst h
      by_cases h2 : d < a.tmps.size
      · simp [h2]
      · simp [h2]
    · simp [h, Array.getElem?_setIfInBounds_ne]
theorem puts_size : ∀ (l : List Oper) (vs : List Value) (a : Act), (puts l vs a).tmps.size = a.tmps.size
  | [], _, _ => by simp [puts]
  | _ :: _, [], _ => by simp [puts]
  | o :: l, v :: vs, a => by rw [puts, puts_size l, put_size]
theorem puts_defers : ∀ (l : List Oper) (vs : List Value) (a : Act), (puts l vs a).defers = a.defers
  | [], _, _ => by simp [puts]
  | _ :: _, [], _ => by simp [puts]
  | o :: l, v :: vs, a => by rw [puts, puts_defers l, put_defers]
theorem puts_other (t : Nat) : ∀ (l : List Oper) (vs : List Value) (a : Act), (∀ o ∈ l, o.dst ≠ some t) → (puts l vs a).tmps[t]? = a.tmps[t]?
  | [], _, _, _ => by simp [puts]
  | _ :: _, [], _, _ => by simp [puts]
  | o :: l, v :: vs, a, h => by
    rw [puts, puts_other t l vs _ (fun o ho => h o (List.mem_cons_of_mem _ ho)), put_get, if_neg (fun hh => h o List.mem_cons_self hh.1)]
theorem puts_at (t : Nat) : ∀ (l : List Oper) (vs : List Value) (a : Act) (i : Nat) (o : Oper) (v : Value), (l.filterMap (·.dst)).Nodup → t < a.tmps.size → l[i]? = some o → vs[i]? = some v → o.dst = some t → (puts l vs a).tmps[t]? = some v
  | [], _, _, _, _, _, _, _, h, _, _ => by simp at h
  | _ :: _, [], _, _, _, _, _, _, _, h, _ => by simp at h
  | o :: l, v :: vs, a, 0, o', v', hn, ht, h1, h2, h3 => by
    simp at h1 h2
    subst h1 h2
    rw [puts, puts_other t l vs _ (fun o' ho' hd => ?_), put_get, if_pos ⟨h3, ht⟩]
    rw [List.filterMap_cons_some h3, List.nodup_cons] at hn
    exact hn.1 (List.mem_filterMap.2 ⟨o', ho', hd⟩)
  | o :: l, v :: vs, a, i + 1, o', v', hn, ht, h1, h2, h3 => by
    rw [puts]
    refine puts_at t l vs _ i o' v' ?_ (by rw [put_size]; exact ht) (by simpa using h1) (by simpa using h2) h3
    cases hd : o.dst with
    | none => rwa [List.filterMap_cons_none hd] at hn
    | some d => rw [List.filterMap_cons_some hd, List.nodup_cons] at hn; exact hn.2

/-- The closed facts that the rule asks of a region. -/
def plainOps (ops : Array Oper) (n : Nat) : Bool :=
  (ops.toList.all fun o => o.guard.isNone && (o.dst.all fun d => decide (d < n))) &&
  decide ((ops.toList.filterMap (·.dst)).Nodup) &&
  (ops.toList.zipIdx.all fun (o, i) => o.after.toList.all fun e => !Region.binds .any e || decide (e.on < i))

def upd (vf : Nat → Value) (i : Nat) (v : Value) : Nat → Value := fun j => if j = i then v else vf j
def don (S : Nat → Bool) (i : Nat) : Nat → Bool := fun j => S j || (j == i)

/-- How an operation reads its operands in the midst of the region: what is done (S) has left its value (vf). -/
structure Reads (ops : Array Oper) (a : Act) (S : Nat → Bool) (vf : Nat → Value) (ρ : Operand → Value) : Prop where
  const : ∀ v, ρ (.const v) = v
  func : ∀ f, ρ (.func f) = .func (.func f) #[] #[]
  glob : ∀ g, ρ (.global g) = .pointer (some ⟨g, 0, none⟩)
  old : ∀ t, (ops.toList.all fun o => o.dst != some t) = true → ρ (.tmp t) = a.eval (.tmp t)
  new : ∀ j d, (ops[j]?).bind (·.dst) = some d → S j = true → ρ (.tmp d) = vf j

/-- What is owed for each operation: the invariant goes on. -/
def Steps (P : Program) (ops : Array Oper) (a : Act) (I : (Nat → Bool) → (Nat → Value) → World → Prop) : List Oper → Nat → Prop
  | [], _ => True
  | o :: os, i => (∀ (S : Nat → Bool) (vf : Nat → Value) (ρ : Operand → Value) (w : World), S i = false → (∀ e ∈ o.after, Region.binds .any e = true → S e.on = true) → I S vf w → Reads ops a S vf ρ →
      leaves P o ρ w fun v w' => I (don S i) (upd vf i v) w') ∧ Steps P ops a I os (i + 1)
theorem Steps.at {P : Program} {ops : Array Oper} {a : Act} {I : (Nat → Bool) → (Nat → Value) → World → Prop} : ∀ {l : List Oper} {k : Nat}, Steps P ops a I l k → ∀ (i : Nat) (o : Oper), l[i]? = some o →
    ∀ (S : Nat → Bool) (vf : Nat → Value) (ρ : Operand → Value) (w : World), S (k + i) = false → (∀ e ∈ o.after, Region.binds .any e = true → S e.on = true) → I S vf w → Reads ops a S vf ρ →
      leaves P o ρ w fun v w' => I (don S (k + i)) (upd vf (k + i) v) w'
  | [], _, _, _, _, h => by simp at h
  | o :: l, k, h, 0, o', ho => by simp at ho; subst ho; exact h.1
  | o :: l, k, h, i + 1, o', ho => by
    have := Steps.at h.2 i o' (by simpa using ho)
    rw [show k + 1 + i = k + (i + 1) by omega] at this
    exact this
theorem leaves_same {P : Program} {o : Oper} {ρ : Operand → Value} {w : World} {R : Value → World → Prop} {c : Value} (h : (execOp ρ o).run P w = .ok (.value c) w) (hR : R c w) : leaves P o ρ w R := by
  unfold leaves; rw [h]; exact hR

/-- The rule. -/
theorem wp_region_facts {id : Nat} {Q : Exit → Act → World → Prop} {a : Act} {w : World} (hm : P.follows .mixedOrders = true) (hp : plainOps ops a.tmps.size = true)
    (I : (Nat → Bool) → (Nat → Value) → World → Prop) (h0 : ∀ vf, I (fun _ => false) vf { w with drawn := w.drawn + 1 })
    (hstep : Steps P ops a I ops.toList 0)
    (hQ : ∀ S vf w', (∀ i, i < ops.size → S i = true) → I S vf w' → Q .normal (puts ops.toList ((List.range ops.size).map vf) a) w') :
    (Code.region id ops true).wp P Q a w := by
  simp only [plainOps, Bool.and_eq_true, List.all_eq_true, decide_eq_true_eq] at hp
  obtain ⟨⟨hp1, hp2⟩, hp3⟩ := hp
  have hg : ∀ (i : Nat) (o : Oper), ops[i]? = some o → o.guard = none := fun i o ho => by
    have := (hp1 o (List.mem_iff_getElem?.2 ⟨i, by simpa using ho⟩)).1
    simpa using this
  have hdl : ∀ (i : Nat) (o : Oper) (d : Nat), ops[i]? = some o → o.dst = some d → d < a.tmps.size := fun i o d ho hd => by
    have := (hp1 o (List.mem_iff_getElem?.2 ⟨i, by simpa using ho⟩)).2
    simpa [hd] using this
  have hbk : ∀ (i : Nat) (o : Oper), ops[i]? = some o → ∀ e ∈ o.after, Region.binds .any e = true → e.on < i := fun i o ho e he hb => by
    have h1 : (o, i) ∈ ops.toList.zipIdx := List.mem_zipIdx_iff_getElem?.2 (by simpa using ho)
    have h2 := hp3 _ h1 e (Array.mem_toList_iff.2 he)
    simpa [hb] using h2
  have huni : ∀ (i j : Nat) (oi oj : Oper) (d : Nat), ops[i]? = some oi → ops[j]? = some oj → oi.dst = some d → oj.dst = some d → i = j := by
    intro i j oi oj d hi hj hdi hdj
    have e1 := puts_at d ops.toList (List.ofFn fun k : Fin ops.toList.length => Value.int .i64 k.val) { tmps := a.tmps, defers := [] } i oi (.int .i64 i) hp2 (hdl i oi d hi hdi) (by simpa using hi)
      (by have := (Array.getElem?_eq_some_iff.1 hi).1; simp [this]) hdi
    have e2 := puts_at d ops.toList (List.ofFn fun k : Fin ops.toList.length => Value.int .i64 k.val) { tmps := a.tmps, defers := [] } j oj (.int .i64 j) hp2 (hdl j oj d hj hdj) (by simpa using hj)
      (by have := (Array.getElem?_eq_some_iff.1 hj).1; simp [this]) hdj
    rw [e1] at e2
    simp at e2
    omega
  refine wp_region_any hm ?_
  have fin : ∀ (S : Nat → Bool) (vf : Nat → Value) (a' : Act) (w' : World), (∀ i, i < ops.size → S i = true) →
      a'.tmps.size = a.tmps.size → a'.defers = a.defers → (∀ t, (∀ o ∈ ops.toList, o.dst ≠ some t) → a'.tmps[t]? = a.tmps[t]?) →
      (∀ (i : Nat) (o : Oper), ops[i]? = some o → S i = true → ∀ d, o.dst = some d → a'.tmps[d]? = some (vf i)) → I S vf w' → Q .normal a' w' := by
    intro S vf a' w' hall hsz hdf hold hF hI
    have hvs : ∀ i, i < ops.size → ((List.range ops.size).map vf)[i]? = some (vf i) := fun i hi => by simp [hi]
    have heq : a' = puts ops.toList ((List.range ops.size).map vf) a := by
      have ht : a'.tmps = (puts ops.toList ((List.range ops.size).map vf) a).tmps := by
        refine Array.ext_getElem? fun t => ?_
        by_cases hd : ∃ o ∈ ops.toList, o.dst = some t
        · obtain ⟨o, ho, hdt⟩ := hd
          obtain ⟨i, hi⟩ := List.mem_iff_getElem?.1 ho
          have hi' : ops[i]? = some o := by simpa using hi
          have hlt := (Array.getElem?_eq_some_iff.1 hi').1
          rw [hF i o hi' (hall i hlt) t hdt, puts_at t _ _ a i o (vf i) hp2 (hdl i o t hi' hdt) hi (hvs i hlt) hdt]
        · have hd' : ∀ o ∈ ops.toList, o.dst ≠ some t := fun o ho h => hd ⟨o, ho, h⟩
          rw [hold t hd', puts_other t _ _ a hd']
      have hdd : a'.defers = (puts ops.toList ((List.range ops.size).map vf) a).defers := by rw [hdf, puts_defers]
      generalize puts ops.toList ((List.range ops.size).map vf) a = b at ht hdd
      cases a'; cases b; simp_all
    rw [heq]
    exact hQ S vf w' hall hI
  have allOf : ∀ (listed : Array Bool), listed.size = ops.size → Region.ready .any ops listed = [] → ∀ i, i < ops.size → listed.getD i false = true := by
    intro listed hls hr i
    induction i using Nat.strongRecOn with
    | _ i ih =>
      intro hi
      cases hl : listed.getD i false with
      | true => rfl
      | false =>
        have : i ∈ Region.ready .any ops listed := by
          refine mem_ready.2 ⟨?_, ops[i], by simp [hi], fun e he hb => ?_⟩
          · have hi' : i < listed.size := by omega
            simp [hi'] at hl ⊢
            exact hl
          · have hlt := hbk i ops[i] (by simp [hi]) e he hb
            exact ih e.on hlt (by omega)
        rw [hr] at this
        cases this
  have key : ∀ (fuel : Nat) (L : List Nat) (listed : Array Bool) (S : Nat → Bool) (vf : Nat → Value) (a' : Act) (w' : World), listed.size = ops.size → L.length ≤ fuel → (∀ i, i < ops.size → S i = false → i ∈ L) →
      a'.tmps.size = a.tmps.size → a'.defers = a.defers → (∀ t, (∀ o ∈ ops.toList, o.dst ≠ some t) → a'.tmps[t]? = a.tmps[t]?) →
      (∀ i, S i = listed.getD i false) →
      (∀ (i : Nat) (o : Oper), ops[i]? = some o → S i = true → ∀ d, o.dst = some d → a'.tmps[d]? = some (vf i)) → I S vf w' →
      wpAny P .any ops Q fuel listed a' w' := by
    intro fuel
    induction fuel with
    | zero =>
      intro L listed S vf a' w' hls hL hun hsz hdf hold hSl hF hI
      have hall : ∀ i, i < ops.size → S i = true := fun i hi => by
        cases hl : S i with
        | true => rfl
        | false =>
          have := hun i hi hl
          rw [List.eq_nil_of_length_eq_zero (Nat.le_zero.1 hL)] at this
          cases this
      refine ⟨List.eq_nil_iff_forall_not_mem.2 fun j hj => ?_, fin S vf a' w' hall hsz hdf hold hF hI⟩
      obtain ⟨hj1, o, ho, _⟩ := mem_ready.1 hj
      have hlt := (Array.getElem?_eq_some_iff.1 ho).1
      have h2 := hall j hlt
      rw [hSl] at h2
      simp [hls, hlt] at hj1 h2
      rw [hj1] at h2; cases h2
    | succ fuel ih =>
      intro L listed S vf a' w' hls hL hun hsz hdf hold hSl hF hI
      refine ⟨fun hr => fin S vf a' w' (fun i hi => by rw [hSl]; exact allOf listed hls hr i hi) hsz hdf hold hF hI, fun i hi => ?_⟩
      obtain ⟨hi1, o, ho, hall⟩ := mem_ready.1 hi
      have hlt := (Array.getElem?_eq_some_iff.1 ho).1
      have hi2 : S i = false := by rw [hSl]; simp [hls, hlt] at hi1 ⊢; exact hi1
      unfold wpOp
      rw [ho]
      simp only [Region.wanted, hg i o ho, if_true]
      have hst0 := Steps.at hstep i o (by simpa using ho)
      rw [Nat.zero_add] at hst0
      refine .inl (wp_of_leaves (hst0 S vf a'.eval w' hi2 (fun e he hb => by rw [hSl]; exact hall e he hb) hI ⟨fun _ => rfl, fun _ => rfl, fun _ => rfl, fun t ht => ?_, fun j d hj hSj => ?_⟩) fun v w'' hI' => ?_)
      · show a'.tmps.getD t undef = a.tmps.getD t undef
        rw [Array.getD_eq_getD_getElem?, Array.getD_eq_getD_getElem?, hold t (fun o ho => by simpa using List.all_eq_true.1 ht o ho)]
      · obtain ⟨oj, hoj, hd⟩ := Option.bind_eq_some_iff.1 hj
        show a'.tmps.getD d undef = vf j
        rw [Array.getD_eq_getD_getElem?, hF j oj hoj hSj d hd]; rfl
      · have hset : ∀ j, (listed.setIfInBounds i true).getD j false = (listed.getD j false || (j == i)) := by
          intro j
          by_cases hji : j = i
          · subst hji; simp [hls, hlt]
          · rw [getD_set_ne false (Ne.symm hji)]; simp [hji]
        have hiL : i ∈ L := hun i hlt hi2
        refine ih (L.erase i) _ (don S i) (upd vf i v) _ w'' (by simpa using hls) (by rw [List.length_erase_of_mem hiL]; omega) (fun j hj hjl => ?_) (by rw [put_size, hsz]) (by rw [put_defers, hdf]) (fun t ht => ?_) (fun j => by rw [hset, don, hSl]) (fun j oj hoj hjl d hd => ?_) hI'
        · simp only [don, Bool.or_eq_false_iff, beq_eq_false_iff_ne] at hjl
          exact (List.mem_erase_of_ne hjl.2).2 (hun j hj hjl.1)
        · rw [put_get, if_neg (fun hh => ht o (List.mem_iff_getElem?.2 ⟨i, by simpa using ho⟩) hh.1), hold t ht]
        · by_cases hji : j = i
          · subst hji
            rw [ho] at hoj; cases hoj
            rw [put_get, if_pos ⟨hd, by rw [hsz]; exact hdl j _ d ho hd⟩]
            simp [upd]
          · have hSj : S j = true := by simpa [don, hji] using hjl
            rw [put_get, if_neg (fun hh => hji (huni j i oj o d hoj ho hd hh.1)), hF j oj hoj hSj d hd]
            simp [upd, hji]
  exact key ops.size (List.range ops.size) (Array.replicate ops.size false) (fun _ => false) (fun _ => undef) a _ (by simp) (by simp) (fun i hi _ => List.mem_range.2 hi) rfl rfl (fun _ _ => rfl)
    (fun i => by by_cases h : i < ops.size <;> simp [h]) (fun i o ho h => by cases h) (h0 _)

def putsF : List Oper → Nat → (Nat → Value) → Act → Act
  | o :: os, i, vf, a => putsF os (i + 1) vf (a.put o.dst (vf i))
  | [], _, _, a => a
theorem puts_eq (vf : Nat → Value) : ∀ (l : List Oper) (k : Nat) (a : Act), puts l ((List.range' k l.length).map vf) a = putsF l k vf a
  | [], _, _ => rfl
  | o :: l, k, a => by
    simp only [List.length_cons, List.range'_succ, List.map_cons, puts, putsF]
    exact puts_eq vf l (k + 1) _
theorem wp_region_facts_lit {l : List Oper} {id : Nat} {Q : Exit → Act → World → Prop} {a : Act} {w : World} (hm : P.follows .mixedOrders = true) (hp : plainOps l.toArray a.tmps.size = true)
    (I : (Nat → Bool) → (Nat → Value) → World → Prop) (h0 : ∀ vf, I (fun _ => false) vf { w with drawn := w.drawn + 1 })
    (hstep : Steps P l.toArray a I l 0)
    (hQ : ∀ S vf w', (∀ i, i < l.length → S i = true) → I S vf w' → Q .normal (putsF l 0 vf a) w') :
    (Code.region id l.toArray true).wp P Q a w :=
  wp_region_facts hm hp I h0 (by simpa using hstep) (fun S vf w' hall hI => by
    have := hQ S vf w' (by simpa using hall) hI
    rw [← puts_eq] at this
    simpa [List.range_eq_range'] using this)
end
end Go.Proofs.Ytiidekolohphnaa
