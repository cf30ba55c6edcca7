/- The order of a drawn region: what its static check says. -/
import Derived.Test.YtbmfehgkbgdajaaGreatDoorAmComp
set_option linter.all false
namespace Am
open Go (IntKind BinOp UnOp FuncId TypeId Program Value World Addr Obj Operand Oper Op Sem)

/-! ### Masks -/

theorem maskOf_bit {acc : List Nat} {i : Nat} : ∀ (l : List Go.Edge) (s0 : Nat),
    (l.foldl (fun s e => if bindsAny e then s ||| 2 ^ e.on ||| acc.getD e.on 0 else s) s0).testBit i = true →
    s0.testBit i = true ∨ ∃ e ∈ l, bindsAny e = true ∧ (i = e.on ∨ (acc.getD e.on 0).testBit i = true)
  | [], s0, h => .inl h
  | e :: l, s0, h => by
    rw [List.foldl_cons] at h
    rcases maskOf_bit l _ h with h1 | ⟨e', h1, h2⟩
    · split at h1
      · rename_i hb
        simp only [Nat.testBit_or, Bool.or_eq_true] at h1
        rcases h1 with (h1 | h1) | h1
        · exact .inl h1
        · refine .inr ⟨e, by simp, hb, .inl ?_⟩
          have : (2 ^ e.on).testBit i = decide (e.on = i) := Nat.testBit_two_pow
          rw [this] at h1
          exact (of_decide_eq_true h1).symm
        · exact .inr ⟨e, by simp, hb, .inr h1⟩
      · exact .inl h1
    · exact .inr ⟨e', by simp [h1], h2⟩

/-- every bit of a mask is told by an edge -/
def Told (ops : List Oper) (m : List Nat) : Prop :=
  ∀ j i, (m.getD j 0).testBit i = true → ∃ o e, ops[j]? = some o ∧ e ∈ o.after.toList ∧ bindsAny e = true ∧ (i = e.on ∨ ((m.getD e.on 0).testBit i = true ∧ e.on < j))

theorem getD_append_lt {l r : List Nat} {j : Nat} (h : j < l.length) : (l ++ r).getD j 0 = l.getD j 0 := by
  simp [List.getD_eq_getElem?_getD, List.getElem?_append_left h]

theorem masks_told : ∀ (r done : List Oper) (acc : List Nat), acc.length = done.length → Told done acc → Told (done ++ r) (masks r acc)
  | [], done, acc, _, h => by simpa [masks] using h
  | o :: r, done, acc, hl, h => by
    have := masks_told r (done ++ [o]) (acc ++ [maskOf o acc]) (by simp [hl]) ?_
    · simpa [masks] using this
    intro j i hb
    by_cases hj : j < acc.length
    · rw [getD_append_lt hj] at hb
      obtain ⟨o', e, h1, h2, h3, h4⟩ := h j i hb
      refine ⟨o', e, ?_, h2, h3, ?_⟩
      · rw [List.getElem?_append_left (by omega)]; exact h1
      · rcases h4 with h4 | ⟨h4, h5⟩
        · exact .inl h4
        · exact .inr ⟨by rw [getD_append_lt (by omega)]; exact h4, h5⟩
    · by_cases hj2 : j = acc.length
      · subst hj2
        have e1 : (acc ++ [maskOf o acc]).getD acc.length 0 = maskOf o acc := by simp [List.getD_eq_getElem?_getD]
        rw [e1] at hb
        rcases maskOf_bit _ _ hb with h1 | ⟨e, h1, h2, h3⟩
        · simp at h1
        · refine ⟨o, e, by rw [hl]; simp, h1, h2, ?_⟩
          rcases h3 with h3 | h3
          · exact .inl h3
          · have hlt : e.on < acc.length := by
              rcases Nat.lt_or_ge e.on acc.length with h4 | h4
              · exact h4
              · rw [List.getD_eq_getElem?_getD, List.getElem?_eq_none h4] at h3; simp at h3
            exact .inr ⟨by rw [getD_append_lt hlt]; exact h3, hlt⟩
      · have : (acc ++ [maskOf o acc]).getD j 0 = 0 := by
          rw [List.getD_eq_getElem?_getD, List.getElem?_eq_none (by simp; omega)]; rfl
        rw [this] at hb; simp at hb

theorem masks_spec (ops : List Oper) : Told ops (masks ops []) := by
  have := masks_told ops [] [] rfl (by intro j i h; simp at h)
  simpa using this

/-- what has been listed is closed under the edges -/
def Closed (ops : List Oper) (L : Nat → Prop) : Prop := ∀ (i : Nat) (o : Oper), L i → ops[i]? = some o → ∀ e ∈ o.after.toList, bindsAny e = true → L e.on

theorem closed_bit {ops : List Oper} {m : List Nat} (ht : Told ops m) {L : Nat → Prop} (hc : Closed ops L) : ∀ (j : Nat) (o : Oper), ops[j]? = some o → (∀ e ∈ o.after.toList, bindsAny e = true → L e.on) →
    ∀ i, bit m j i = true → L i := by
  intro j
  induction j using Nat.strongRecOn with
  | ind j ih =>
    intro o ho hp i hb
    obtain ⟨o', e, h1, h2, h3, h4⟩ := ht j i hb
    rw [ho] at h1; injection h1 with h1; subst h1
    have hl := hp e h2 h3
    rcases h4 with rfl | ⟨h4, h5⟩
    · exact hl
    · cases ho2 : ops[e.on]? with
      | none =>
        obtain ⟨o2, _, h6, _⟩ := ht e.on i h4
        rw [ho2] at h6; cases h6
      | some o2 => exact ih e.on h5 o2 ho2 (fun e' he' hb' => hc e.on o2 hl ho2 e' he' hb') i h4

/-! ### Pairs -/

theorem dstIn_false {x y : AOper} (h : dstIn x y = false) {d : Nat} (hd : x.dst = some d) : d ∉ y.slots := by
  unfold dstIn at h
  rw [hd] at h
  simpa using h

theorem dstSame_false {x y : AOper} (h : dstSame x y = false) {d : Nat} (hd : x.dst = some d) : y.dst ≠ some d := by
  unfold dstSame at h
  rw [hd] at h
  simpa using h

structure PairOk (m : List Nat) (a b : It) : Prop where
  ne : a.i ≠ b.i
  war : ∀ d, b.x.dst = some d → d ∈ a.x.slots → b.light = false ∧ bit m b.i a.i = true
  waw : ∀ d, a.x.dst = some d → b.x.dst ≠ some d
  raw : ∀ d, a.x.dst = some d → d ∈ b.x.slots → bit m b.i a.i = true
  heavy : a.light = false → b.light = false → bit m b.i a.i = true

theorem pairOk_spec {m : List Nat} {a b : It} (h : pairOk m a b = true) : PairOk m a b := by
  unfold pairOk at h
  simp only [Bool.and_eq_true, bne_iff_ne, ne_eq, Bool.not_eq_true', Bool.or_eq_true] at h
  obtain ⟨⟨⟨⟨h1, h2⟩, h3⟩, h4⟩, h5⟩ := h
  refine ⟨h1, ?_, fun d hd => dstSame_false h3 hd, ?_, ?_⟩
  · intro d hd hm
    rcases h2 with h2 | h2
    · exact absurd hm (dstIn_false h2 hd)
    · exact h2
  · intro d hd hm
    rcases h4 with h4 | h4
    · exact absurd hm (dstIn_false h4 hd)
    · exact h4
  · intro ha hb
    rcases h5 with (h5 | h5) | h5
    · rw [ha] at h5; cases h5
    · rw [hb] at h5; cases h5
    · exact h5

structure StepOk (m : List Nat) (done : List It) (b : It) (r : List It) : Prop where
  self : b.light = true → ∀ d, b.x.dst = some d → d ∉ b.x.slots
  pair : ∀ a ∈ done, PairOk m a b
  pred : ∀ e ∈ b.o.after.toList, bindsAny e = true → ∃ a ∈ done, a.i = e.on
  lights : b.light = false → ∀ c ∈ r, c.light = true → ∃ e ∈ c.o.after.toList, bindsAny e = true ∧ ∀ a ∈ done, a.i ≠ e.on

theorem stepOk_spec {m : List Nat} {done : List It} {b : It} {r : List It} (h : stepOk m done b r = true) : StepOk m done b r := by
  unfold stepOk at h
  simp only [Bool.and_eq_true, Bool.or_eq_true, Bool.not_eq_true', List.all_eq_true, List.any_eq_true, beq_iff_eq, bne_iff_ne, ne_eq] at h
  obtain ⟨⟨⟨h1, h2⟩, h3⟩, h4⟩ := h
  refine ⟨?_, fun a ha => pairOk_spec (h2 a ha), ?_, ?_⟩
  · intro hl d hd
    rcases h1 with h1 | h1
    · rw [hl] at h1; cases h1
    · exact dstIn_false h1 hd
  · intro e he hb
    rcases h3 e he with h3 | h3
    · rw [hb] at h3; cases h3
    · exact h3
  · intro hl c hc hlc
    rcases h4 with h4 | h4
    · rw [hl] at h4; cases h4
    · rcases h4 c hc with h4 | h4
      · rw [hlc] at h4; cases h4
      · exact h4

theorem order_cons {m : List Nat} {b : It} {r done : List It} {xs : List AOper} (h : order m (b :: r) done = some xs) :
    StepOk m done b r ∧ ∃ ys, order m r (b :: done) = some ys ∧ xs = withChk b.x (chks m done b) :: ys := by
  unfold order at h
  split at h
  · rename_i hs
    simp only [Option.map_eq_some_iff] at h
    obtain ⟨ys, h1, rfl⟩ := h
    exact ⟨stepOk_spec hs, ys, h1, rfl⟩
  · cases h

/-- of those to come, each stands right to each of those that have been -/
theorem order_pair {m : List Nat} : ∀ {rest done : List It} {xs : List AOper}, order m rest done = some xs → ∀ a ∈ done, ∀ b ∈ rest, PairOk m a b
  | [], _, _, _, _, _, _, hb => by cases hb
  | c :: r, done, xs, h, a, ha, b, hb => by
    obtain ⟨hs, ys, h1, _⟩ := order_cons h
    rcases List.mem_cons.1 hb with rfl | hb
    · exact hs.pair a ha
    · exact order_pair h1 a (List.mem_cons_of_mem _ ha) b hb

/-- all edges go back -/
def Topo (l : List It) : Prop := ∀ p b s, l = p ++ b :: s → ∀ e ∈ b.o.after.toList, bindsAny e = true → ∃ a ∈ p, a.i = e.on

theorem order_topo {m : List Nat} : ∀ {rest done : List It} {xs : List AOper}, order m rest done = some xs →
    ∀ p b s, rest = p ++ b :: s → ∀ e ∈ b.o.after.toList, bindsAny e = true → ∃ a, (a ∈ done ∨ a ∈ p) ∧ a.i = e.on
  | [], _, _, _, p, b, s, he => by simp at he
  | c :: r, done, xs, h, p, b, s, he => by
    intro e h1 h2
    obtain ⟨hs, ys, h3, _⟩ := order_cons h
    cases p with
    | nil =>
      simp only [List.nil_append, List.cons.injEq] at he
      obtain ⟨rfl, rfl⟩ := he
      obtain ⟨a, ha, hi⟩ := hs.pred e h1 h2
      exact ⟨a, .inl ha, hi⟩
    | cons x p =>
      simp only [List.cons_append, List.cons.injEq] at he
      obtain ⟨rfl, rfl⟩ := he
      obtain ⟨a, ha, hi⟩ := order_topo h3 p b s rfl e h1 h2
      rcases ha with ha | ha
      · rcases List.mem_cons.1 ha with rfl | ha
        · exact ⟨_, .inr (by simp), hi⟩
        · exact ⟨a, .inl ha, hi⟩
      · exact ⟨a, .inr (by simp [ha]), hi⟩

theorem topo_all {l : List It} (ht : Topo l) {L : Nat → Prop} (hready : ∀ c ∈ l, (∀ e ∈ c.o.after.toList, bindsAny e = true → L e.on) → L c.i) : ∀ c ∈ l, L c.i := by
  have key : ∀ n p b s, p.length = n → l = p ++ b :: s → L b.i := by
    intro n
    induction n using Nat.strongRecOn with
    | ind n ih =>
      intro p b s hn he
      refine hready b (by rw [he]; simp) ?_
      intro e h1 h2
      obtain ⟨a, ha, hi⟩ := ht p b s he e h1 h2
      obtain ⟨p1, p2, rfl⟩ := List.append_of_mem ha
      rw [← hi]
      exact ih p1.length (by rw [← hn]; simp) p1 a (p2 ++ b :: s) rfl (by rw [he]; simp)
  intro c hc
  obtain ⟨p, s, rfl⟩ := List.append_of_mem hc
  exact key _ p c s rfl rfl

/-! ### What compDrawn gives -/

theorem compDrawn_spec {l : List (Oper × AOper)} {xs : List AOper} (h : compDrawn l = some xs) :
    ∃ its : List It, order (masks (l.map (·.1)) []) its [] = some xs ∧ (∀ c ∈ its, l[c.i]? = some (c.o, c.x)) ∧ (∀ i, i < l.length → ∃ c ∈ its, c.i = i) := by
  unfold compDrawn at h
  simp only [] at h
  split at h
  case isFalse => cases h
  rename_i hc
  obtain ⟨hc, hc2⟩ := hc
  generalize refOrder l.length l.length [] (items l) = ord at *
  refine ⟨_, h, ?_, ?_⟩
  · intro c hm
    simp only [List.mem_filterMap, Option.map_eq_some_iff] at hm
    obtain ⟨c', _, p, hp, rfl⟩ := hm
    exact hp
  · intro i hi
    simp only [List.all_eq_true, List.any_eq_true, beq_iff_eq] at hc
    have hmem : ({ i := i, o := l[i].1, x := l[i].2 } : It) ∈ items l := by
      have hz : (l[i], i) ∈ l.zipIdx := List.mk_mem_zipIdx_iff_getElem?.2 (List.getElem?_eq_getElem hi)
      exact List.mem_map.2 ⟨(l[i], i), hz, rfl⟩
    obtain ⟨d, hd, he⟩ := hc _ hmem
    simp only at he
    refine ⟨{ i := d.i, o := l[i].1, x := l[i].2 }, ?_, he⟩
    refine List.mem_filterMap.2 ⟨d, hd, ?_⟩
    rw [he, List.getElem?_eq_getElem hi]; rfl
end Am
