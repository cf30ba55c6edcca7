/- Ranges over maps: the next entry. -/
import Derived.Test.YtbmfehgkbgdajaaGreatDoorAmOp12
set_option linter.all false
namespace Am
open Go (IntKind BinOp UnOp FuncId TypeId Program Value World Addr Obj Operand Oper Op Sem Act)

variable {W0 : Ctx} {φ : Phi} {s : St} {w w' : World} {P : Program}

theorem MRel.filter {p : MEnt → Bool} {p' : Go.MapEntry → Bool} (hp : ∀ (e : MEnt) (e' : Go.MapEntry), e'.born = e.born → p' e' = p e) : ∀ {l : List MEnt} {l' : List Go.MapEntry}, MRel φ l l' → MRel φ (l.filter p) (l'.filter p')
  | [], l', h => by rw [show l' = [] from h]; rfl
  | e :: r, _, ⟨e', t, he, h1, h2, h3, h4⟩ => by
    subst he
    have ih := MRel.filter hp h4
    rw [List.filter_cons, List.filter_cons, hp e e' h3]
    split
    · exact ⟨e', _, rfl, h1, h2, h3, ih⟩
    · exact ih

theorem MRel.all {p : MEnt → Bool} {p' : Go.MapEntry → Bool} (hp : ∀ (e : MEnt) (e' : Go.MapEntry), e'.born = e.born → p' e' = p e) : ∀ {l : List MEnt} {l' : List Go.MapEntry}, MRel φ l l' → l'.all p' = l.all p
  | [], l', h => by rw [show l' = [] from h]; rfl
  | e :: r, _, ⟨e', t, he, h1, h2, h3, h4⟩ => by
    subst he
    rw [List.all_cons, List.all_cons, hp e e' h3, MRel.all hp h4]

/-- the model's candidates, as a list -/
def candsOf (es : List Go.MapEntry) (since : Nat) (seen : List Nat) : List (Option Go.MapEntry) :=
  let left := es.filter fun e => !seen.contains e.born
  let old := left.filter fun e => decide (e.born < since)
  let new := left.filter fun e => decide (e.born ≥ since)
  (if old.isEmpty then [none] else []) ++ (old ++ new).map some

theorem cands_rel {es : List MEnt} {es' : List Go.MapEntry} (h : MRel φ es es') (since : Nat) (seen : List Nat) :
    (candsOf es' since seen).length = (mapCands es since seen).length ∧ 0 < (mapCands es since seen).length ∧
    ∀ i : Nat, (∀ e : MEnt, (mapCands es since seen)[i]? = some (some e) → ∃ e' : Go.MapEntry, (candsOf es' since seen)[i]? = some (some e') ∧ VRel φ e.key e'.key ∧ VRel φ e.val e'.val ∧ e'.born = e.born) ∧
      ((mapCands es since seen)[i]? = some none → (candsOf es' since seen)[i]? = some none) := by
  have h1 := h.filter (p := fun e => !seen.contains e.born) (p' := fun e => !seen.contains e.born) (fun e e' hb => by rw [hb])
  have h2 := h1.filter (p := fun e => decide (e.born < since)) (p' := fun e => decide (e.born < since)) (fun e e' hb => by rw [hb])
  have h3 := h1.filter (p := fun e => decide (since ≤ e.born)) (p' := fun e => decide (e.born ≥ since)) (fun e e' hb => by rw [hb])
  have h4 := h2.append h3
  unfold mapCands candsOf
  simp only []
  generalize hl2 : ((es.filter fun e => !seen.contains e.born).filter fun e => decide (e.born < since)) = o2 at h2 h4 ⊢
  generalize hl2' : ((es'.filter fun e => !seen.contains e.born).filter fun e => decide (e.born < since)) = o2' at h2 h4 ⊢
  generalize hl3 : ((es.filter fun e => !seen.contains e.born).filter fun e => decide (since ≤ e.born)) = o3 at h3 h4 ⊢
  generalize hl3' : ((es'.filter fun e => !seen.contains e.born).filter fun e => decide (e.born ≥ since)) = o3' at h3 h4 ⊢
  have hlen := h4.length
  have hget : ∀ (i : Nat) (e : MEnt), (o2 ++ o3)[i]? = some e → ∃ e' : Go.MapEntry, (o2' ++ o3')[i]? = some e' ∧ VRel φ e.key e'.key ∧ VRel φ e.val e'.val ∧ e'.born = e.born := by
    intro i e hi
    obtain ⟨e', g1, g2, g3, g4⟩ := h4.get hi
    exact ⟨e', g1, g2, g3, g4⟩
  cases o2 with
  | nil =>
    obtain rfl : o2' = [] := h2
    simp only [List.isEmpty_nil, if_true, List.nil_append] at hlen hget ⊢
    refine ⟨by simp [hlen], by simp, fun i => ?_⟩
    cases i with
    | zero => simp
    | succ i =>
      simp only [List.cons_append, List.nil_append, List.getElem?_cons_succ, List.getElem?_map]
      refine ⟨fun e hi => ?_, fun hi => ?_⟩
      · cases hg : o3[i]? with
        | none => rw [hg] at hi; cases hi
        | some e1 =>
          rw [hg] at hi
          obtain rfl : e1 = e := by simpa using hi
          obtain ⟨e', g1, g2⟩ := hget i e1 hg
          exact ⟨e', by rw [g1]; rfl, g2⟩
      · cases hg : o3[i]? with
        | none => rw [hg] at hi; cases hi
        | some e1 => rw [hg] at hi; simp at hi
  | cons x r =>
    obtain ⟨x', r', rfl, _⟩ := h2
    simp only [List.isEmpty_cons, Bool.false_eq_true, if_false, List.nil_append, List.length_map, List.getElem?_map] at hlen hget ⊢
    refine ⟨by simpa using hlen, by simp, fun i => ⟨fun e hi => ?_, fun hi => ?_⟩⟩
    · cases hg : ((x :: r) ++ o3)[i]? with
      | none => rw [hg] at hi; cases hi
      | some e1 =>
        rw [hg] at hi
        obtain rfl : e1 = e := by simpa using hi
        obtain ⟨e', g1, g2⟩ := hget i e1 hg
        exact ⟨e', by rw [g1]; rfl, g2⟩
    · cases hg : ((x :: r) ++ o3)[i]? with
      | none => rw [hg] at hi; cases hi
      | some e1 => rw [hg] at hi; simp at hi

theorem cands_arr (es : Array Go.MapEntry) (since : Nat) (seen : List Nat) :
    ((if ((es.filter fun e => !seen.toArray.contains e.born).filter fun e => decide (e.born < since)).isEmpty then #[none] else #[]) ++
      (((es.filter fun e => !seen.toArray.contains e.born).filter fun e => decide (e.born < since)) ++ ((es.filter fun e => !seen.toArray.contains e.born).filter fun e => decide (e.born ≥ since))).map some) =
      (candsOf es.toList since seen).toArray := by
  obtain ⟨es⟩ := es
  unfold candsOf
  simp only [List.contains_toArray, List.filter_toArray, List.append_toArray, List.map_toArray, List.isEmpty_toArray]
  split <;> simp

theorem next_sound (h : R W0 φ s w) {it' : AOpd} {E : Env} {v : Value} (hv : VRel φ (it'.ev E) v) {K : Val → St → Prop} (hd : denNext E it' K s) (t : TypeId) :
    ∃ x x' s1 w1, (Go.Instr.next v false t).run P w = .ok x' w1 ∧ VRel φ x x' ∧ K x s1 ∧ Post W0 φ s w φ s1 w1 := by
  unfold denNext at hd
  split at hd
  case h_2 => exact hd.elim
  rename_i r hE
  rw [hE] at hv
  obtain ⟨a', rfl, ha⟩ := hv
  split at hd
  · -- of a map that is nil
    rename_i since seen last hg
    obtain ⟨c, sz, hc⟩ := h.at_of_get hg ha.notUnk
    obtain rfl := ha.eq hc
    obtain ⟨m', hw, hm⟩ := h.blk _ _ _ _ hc hg
    obtain rfl : m' = none := by
      have : Value.map m' = Value.map none := hm
      injection this
    refine ⟨.tup [.bool false], .tuple #[.bool false], s, w, ?_, ⟨_, rfl, VsRel.cons rfl VsRel.nil⟩, hd, Post.refl h⟩
    have hgo : (Go.getObj c).run P w = .ok (.mapIter none since seen.toArray last) w := by simp [Go.getObj, Sem.run, hw]
    simp only [Go.Instr.next, Go.Sem.run_bind, hgo, Go.Result.andThen_ok]
    rfl
  · rename_i m since seen last hg
    split at hd
    case h_2 => exact hd.elim
    rename_i es clock hgm
    split at hd
    · exact hd.elim
    rename_i hchk
    split at hd
    case isFalse => exact hd.elim
    rename_i hfl
    obtain ⟨c, sz, hc⟩ := h.at_of_get hg ha.notUnk
    obtain rfl := ha.eq hc
    obtain ⟨m', hw, hm⟩ := h.blk _ _ _ _ hc hg
    obtain ⟨c2, e2, hb⟩ := hm
    injection e2 with e2
    subst e2
    obtain ⟨es', hat, hw2, hmr⟩ := h.mapAt hb hgm
    have hgo : (Go.getObj c).run P w = .ok (.mapIter (some c2) since seen.toArray last) w := by simp [Go.getObj, Sem.run, hw]
    have hgo2 := run_getObj_map (P := P) hw2
    obtain ⟨hlen, hpos, hrel⟩ := cands_rel hmr since seen
    have hall : (es'.all fun e => decide (e.born ≥ last)) = es.all fun e => decide (last ≤ e.born) := by
      rw [← Array.all_toList]
      exact hmr.all (fun e e' hb => by rw [hb])
    have hemp : es'.isEmpty = es.isEmpty := by
      have := hmr.length
      cases es with
      | nil => have : es'.toList = [] := hmr; simp [Array.isEmpty, ← Array.length_toList, this]
      | cons a r => obtain ⟨x, y, he, _⟩ := hmr; simp [Array.isEmpty, ← Array.length_toList, he]
    have hchk' : (!seen.toArray.isEmpty && !es'.isEmpty && es'.all fun e => decide (e.born ≥ last)) = false := by
      rw [hall, hemp]
      simpa using hchk
    have step : ∀ (i : Nat) (w0 : World), i < (mapCands es since seen).length → w0.heap = w.heap → w0.os = w.os → w0.output = w.output →
        ∃ x x' s1 w1, ((match (candsOf es'.toList since seen).toArray[i]? with
          | some (some e) => do
            Go.setObj c (.mapIter (some c2) since (seen.toArray.push e.born) clock)
            pure (.tuple #[.bool true, e.key, e.val])
          | some none => pure (.tuple #[.bool false])
          | none => Go.stuck "Next: no such candidate" : Sem Value)).run P w0 = .ok x' w1 ∧ VRel φ x x' ∧ K x s1 ∧ Post W0 φ s w φ s1 w1 := by
      intro i w0 hi hh ho hu
      have hk := hd i hi
      dsimp only at hk
      have hsame := h.same hh ho hu
      split at hk
      · rename_i e he
        obtain ⟨e', h1, h2, h3, h4⟩ := (hrel i).1 e he
        rw [List.getElem?_toArray, h1]
        have hlt : c < w0.heap.size := by rw [hh]; exact h.lt _ _ _ hc
        have hw0 : w0.heap[c]? = some (.mapIter (some c2) since seen.toArray last) := by rw [hh]; exact hw
        refine ⟨.tup [.bool true, e.key, e.val], .tuple #[.bool true, e'.key, e'.val], _, { w0 with heap := w0.heap.setIfInBounds c (.mapIter (some c2) since (seen.toArray.push e'.born) clock) }, ?_, ⟨_, rfl, VsRel.cons rfl (VsRel.cons h2 (VsRel.cons h3 VsRel.nil))⟩, hk, ?_⟩
        · simp [Go.setObj, Sem.run, hw0]
        · refine Post.trans h hsame (hsame.rel.put hc hg rfl hfl rfl rfl rfl rfl ⟨some c2, ?_, ⟨c2, rfl, hb⟩⟩)
          rw [Array.getElem?_setIfInBounds_self_of_lt hlt, h4]
          simp
      · rename_i he
        rw [List.getElem?_toArray, (hrel i).2 he]
        exact ⟨.tup [.bool false], .tuple #[.bool false], s, w0, rfl, ⟨_, rfl, VsRel.cons rfl VsRel.nil⟩, hk, hsame⟩
      · exact hk.elim
    have hrun : (Go.Instr.next (.pointer (some ⟨c, 0, none⟩)) false t).run P w = ((Go.choose (.mapNext (candsOf es'.toList since seen).toArray.size)).run P w).andThen fun i w0 => ((match (candsOf es'.toList since seen).toArray[i]? with
          | some (some e) => do
            Go.setObj c (.mapIter (some c2) since (seen.toArray.push e.born) clock)
            pure (.tuple #[.bool true, e.key, e.val])
          | some none => pure (.tuple #[.bool false])
          | none => Go.stuck "Next: no such candidate" : Sem Value)).run P w0 := by
      simp only [Go.Instr.next, Go.Sem.run_bind, hgo, Go.Result.andThen_ok, hgo2, hchk', Bool.false_eq_true, if_false, cands_arr]
      rfl
    rw [hrun, Go.run_choose]
    have hsz : (candsOf es'.toList since seen).toArray.size = (mapCands es since seen).length := by simpa using hlen
    rw [hsz]
    split
    · simp only [Go.Result.andThen_ok]
      exact step 0 w hpos rfl rfl rfl
    · simp only [Go.Result.andThen_ok]
      exact step _ { w with drawn := w.drawn + 1 } (Nat.mod_lt _ hpos) rfl rfl rfl
  · exact hd.elim
end Am
