/- all[pair] = append(all[pair], amount): the map, as the document has it -/
import Derived.Test.YtiidekolohphnaaPairKey
import Derived.Test.YtiidekolohphnaaPairsQ
import Derived.Maps.RangeWalk
import Derived.Maps.Views
import Derived.RegionTactic
namespace Go.Proofs.Ytiidekolohphnaa
open Go.RowKit Go.Maps Go.ChangeShapes

abbrev Gs (w : World) (b n : Nat) (D : DataW Unit) : Prop := w.ownsGroups Try.prog 109 (b + 1) 3 .i64 b n D
abbrev Oi (w : World) (b : Nat) (v : Value) (zs : List Int) : Prop := w.ownsInts (b + 1) 3 .i64 v zs

set_option maxRecDepth 100000 in
theorem groups_look {w : World} {b n : Nat} {D : DataW Unit} {key : Value} {kl : Lit} (h : Gs w b n D) (hn : n < maxLen) (hkey : keyOf Try.prog 109 key = some kl) :
    ∃ v zs, (∀ w' : World, w'.heap[b]? = w.heap[b]? → (Instr.lookup 107 (.map (some b)) key false).run Try.prog w' = .ok v w') ∧ D.atKey kl .nil = rowDatum .i64 v zs ∧ Oi w b v zs ∧ zs.length ≤ n ∧
      w.groupBack Try.prog 107 109 (b + 1) 3 .i64 b n D key kl v := by
  obtain ⟨v, zs, hrun, hat, hoi, hzl, hback⟩ := h.at pairLaw mapU (pairZero w) hn hkey
  refine ⟨v, zs, fun w' hw' => ?_, hat, hoi, hzl, hback⟩
  obtain ⟨es, clock, hb, F, hs, rfl, hbb, hlen, hap⟩ := h
  have hst := (MapKept.stamped_iff es clock).1 F.stamped
  rcases Maps.fit_look false pairLaw mapU (pairZero w) hb F hkey with ⟨h1, h2, _⟩ | ⟨e0, y, h1, h2, h3, _⟩
  · rw [hrun] at h1
    rcases Maps.fit_look false pairLaw mapU (pairZero w') (hw'.trans hb) F hkey with ⟨h1', _⟩ | ⟨e0, y, g1, g2, _⟩
    · rw [h1']; injection h1 with h1; rw [h1]
    · exact absurd g2 (h2 e0 g1)
  · rw [hrun] at h3
    rcases Maps.fit_look false pairLaw mapU (pairZero w') (hw'.trans hb) F hkey with ⟨_, h2', _⟩ | ⟨e1, y', g1, g2, g3, _⟩
    · exact absurd h2 (h2' e0 h1)
    · obtain rfl := entry_eq_of_key hst.2.2 h1 g1 (h2.trans g2.symm)
      rw [g3]; injection h3 with h3; rw [h3]

/-- The numbers of an element. -/
def its : DataW Unit → List Int
  | .slice xs _ => xs.map fun | .lit (.int _ z) => z | _ => 0
  | _ => []
theorem its_row {w : World} {b : Nat} {v : Value} {zs : List Int} (h : Oi w b v zs) : its (rowDatum .i64 v zs) = zs := by
  rcases h.datum (H := Unit) with ⟨h1, rfl⟩ | h1
  · rw [h1]; rfl
  · rw [h1]
    simp only [its, lits, List.map_map]
    rw [show ((fun x : DataW Unit => match x with | .lit (.int _ z) => z | _ => 0) ∘ fun n => .lit (.int .i64 n)) = id from rfl, List.map_id]

/-- What the map holds behind some dues. -/
def Grp (l : List Due) (D : DataW Unit) : Prop := IsMap D ∧ ∀ (a b : Int) (kl : Lit), keyOf Try.prog 109 (pairV a b) = some kl →
  (has D kl = true → 0 ≤ a ∧ a < b ∧ b ≤ 30) ∧ (has D kl = false → 0 ≤ a → a < b → dueToL l b a = []) ∧ (0 ≤ a → a < b → its (D.atKey kl .nil) = dueToL l b a)
theorem Grp.nil : Grp [] (.map []) := ⟨isMap_empty, fun a b kl _ => ⟨fun h => (by simp [has] at h), fun _ _ _ => rfl, fun _ _ => rfl⟩⟩
theorem dueToL_one {l : List Due} {d : Due} {a b x y z : Int} (hd : dueErr d = 0) (hz : (d.frm = x ∧ d.to = y ∧ z = d.amt) ∨ (d.frm = y ∧ d.to = x ∧ z = -d.amt)) (ha : 0 ≤ a) :
    (a = x ∧ b = y → dueToL (l ++ [d]) b a = dueToL l b a ++ [z]) ∧ ((a < b ∨ x < y ∧ (a ≠ x ∨ b ≠ y)) → x < y → ¬ (a = x ∧ b = y) → a < b → dueToL (l ++ [d]) b a = dueToL l b a) := by
  obtain ⟨h1, h2, h3, h4⟩ := dueErr_ok hd
  simp only [dueToL, List.flatMap_append, List.flatMap_cons, List.flatMap_nil, List.append_nil, due1, due2]
  constructor
  · rintro ⟨rfl, rfl⟩
    rcases hz with ⟨rfl, rfl, rfl⟩ | ⟨rfl, rfl, rfl⟩
    · rw [if_pos ⟨rfl, .inr rfl⟩, if_neg (by omega)]; rfl
    · rw [if_neg (by omega), if_pos ⟨rfl, .inr rfl⟩]; rfl
  · intro _ hxy hne hab
    rw [if_neg (by omega), if_neg (by omega)]; simp
theorem Grp.step {l : List Due} {D : DataW Unit} {d : Due} {w w1 : World} {m : Nat} {x y z : Int} {kl : Lit} {v v' : Value} {zs : List Int} (h : Grp l D) (hd : dueErr d = 0) (hxy : x < y) (hz : (d.frm = x ∧ d.to = y ∧ z = d.amt) ∨ (d.frm = y ∧ d.to = x ∧ z = -d.amt))
    (hkey : keyOf Try.prog 109 (pairV x y) = some kl) (hat : D.atKey kl .nil = rowDatum .i64 v zs) (hoi : Oi w m v zs) (hoi' : Oi w1 m v' (zs ++ [z])) :
    Grp (l ++ [d]) (D.put kl (rowDatum .i64 v' (zs ++ [z]))) := by
  obtain ⟨h1, h2, h3, h4⟩ := dueErr_ok hd
  refine ⟨h.1.put _ _, fun a b kl' hk' => ?_⟩
  have hK := pairLaw.key hkey
  obtain ⟨g1, g2, g3⟩ := h.2 a b kl' hk'
  obtain ⟨s1, s2, s3⟩ := h.2 x y kl hkey
  by_cases hkk : kl' = kl
  · subst hkk
    have hv := pairLaw.inj hk' hkey
    unfold pairV at hv
    simp at hv
    obtain ⟨rfl, rfl⟩ := hv
    refine ⟨fun _ => by omega, fun hf => (by rw [has_put_same h.1 hK] at hf; cases hf), fun ha hab => ?_⟩
    rw [atKey_put_same h.1 hK, its_row hoi', (dueToL_one hd hz ha).1 ⟨rfl, rfl⟩, ← g3 ha hab, hat, its_row hoi]
  · have hne : ¬ (a = x ∧ b = y) := by
      rintro ⟨rfl, rfl⟩
      rw [hkey] at hk'; cases hk'; exact hkk rfl
    rw [has_put_other hkk, atKey_put_other hkk]
    refine ⟨g1, fun hf ha hab => ?_, fun ha hab => ?_⟩
    · rw [(dueToL_one hd hz ha).2 (.inl hab) hxy hne hab, g2 hf ha hab]
    · rw [(dueToL_one hd hz ha).2 (.inl hab) hxy hne hab, g3 ha hab]
end Go.Proofs.Ytiidekolohphnaa
