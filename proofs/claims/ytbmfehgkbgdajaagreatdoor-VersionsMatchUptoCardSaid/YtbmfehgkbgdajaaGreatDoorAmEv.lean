/- What an abstract operation looks at. -/
import Derived.Test.YtbmfehgkbgdajaaGreatDoorAmOrd
set_option linter.all false
namespace Am
open Go (IntKind BinOp UnOp FuncId TypeId)

theorem opt_congr {E E' : Env} {x : Option AOpd} (h : ∀ y ∈ x.toList, y.ev E = y.ev E') : x.map (AOpd.ev E) = x.map (AOpd.ev E') := by
  cases x with
  | none => rfl
  | some x => simp [h x (by simp)]

theorem evs_congr {E E' : Env} {l : List AOpd} (h : ∀ y ∈ l, y.ev E = y.ev E') : evs E l = evs E' l := List.map_congr_left h

theorem parts_congr {E E' : Env} {l : List (Nat × Nat × AOpd)} (h : ∀ y ∈ l.map (fun p => p.2.2), y.ev E = y.ev E') :
    (l.map fun p => (p.1, p.2.1, p.2.2.ev E)) = l.map fun p => (p.1, p.2.1, p.2.2.ev E') := by
  refine List.map_congr_left fun p hp => ?_
  rw [h p.2.2 (List.mem_map.2 ⟨p, hp, rfl⟩)]

theorem evOp_congr {o : AOp} {E E' : Env} (s : St) (h : ∀ x ∈ o.opds, x.ev E = x.ev E') : evOp o E s = evOp o E' s := by
  cases o with
  | build z ps => simp only [evOp, parts_congr h]
  | buildSlice e c n ps => simp only [evOp, parts_congr h]
  | mkFn f p q =>
    have h1 : evs E p = evs E' p := evs_congr fun y hy => h y (by simp [AOp.opds, hy])
    have h2 : evs E q = evs E' q := evs_congr fun y hy => h y (by simp [AOp.opds, hy])
    simp only [evOp, h1, h2]
  | sliceStr x lo hi =>
    have h0 : x.ev E = x.ev E' := h x (by simp [AOp.opds])
    have h1 := opt_congr (E := E) (E' := E') (x := lo) fun y hy => h y (by simp [AOp.opds] at hy ⊢; simp [hy])
    have h2 := opt_congr (E := E) (E' := E') (x := hi) fun y hy => h y (by simp [AOp.opds] at hy ⊢; simp [hy])
    simp only [evOp, h0, h1, h2]
  | sliceSl z x lo hi mx =>
    have h0 : x.ev E = x.ev E' := h x (by simp [AOp.opds])
    have h1 := opt_congr (E := E) (E' := E') (x := lo) fun y hy => h y (by simp [AOp.opds] at hy ⊢; simp [hy])
    have h2 := opt_congr (E := E) (E' := E') (x := hi) fun y hy => h y (by simp [AOp.opds] at hy ⊢; simp [hy])
    have h3 := opt_congr (E := E) (E' := E') (x := mx) fun y hy => h y (by simp [AOp.opds] at hy ⊢; simp [hy])
    simp only [evOp, h0, h1, h2, h3]
  | sliceArr l z x lo hi mx =>
    have h0 : x.ev E = x.ev E' := h x (by simp [AOp.opds])
    have h1 := opt_congr (E := E) (E' := E') (x := lo) fun y hy => h y (by simp [AOp.opds] at hy ⊢; simp [hy])
    have h2 := opt_congr (E := E) (E' := E') (x := hi) fun y hy => h y (by simp [AOp.opds] at hy ⊢; simp [hy])
    have h3 := opt_congr (E := E) (E' := E') (x := mx) fun y hy => h y (by simp [AOp.opds] at hy ⊢; simp [hy])
    simp only [evOp, h0, h1, h2, h3]
  | mm b xs =>
    have h1 : evs E xs = evs E' xs := evs_congr fun y hy => h y (by simpa [AOp.opds] using hy)
    simp only [evOp, h1]
  | newRow e z => rfl
  | mkMap => rfl
  | fail => rfl
  | pick c x y =>
    have h1 : c.ev E = c.ev E' := h c (by simp [AOp.opds])
    have h2 : x.ev E = x.ev E' := h x (by simp [AOp.opds])
    have h3 : y.ev E = y.ev E' := h y (by simp [AOp.opds])
    simp only [evOp, h1, h2, h3]
  | mapSet k c x y =>
    have h1 : c.ev E = c.ev E' := h c (by simp [AOp.opds])
    have h2 : x.ev E = x.ev E' := h x (by simp [AOp.opds])
    have h3 : y.ev E = y.ev E' := h y (by simp [AOp.opds])
    simp only [evOp, h1, h2, h3]
  | len k x =>
    have h1 : x.ev E = x.ev E' := h x (by simp [AOp.opds])
    simp only [evOp, h1]
  | _ =>
    simp only [AOp.opds, List.mem_cons, List.not_mem_nil, or_false, forall_eq_or_imp, forall_eq] at h
    first
      | (obtain ⟨h1, h2⟩ := h; simp only [evOp, h1, h2]; done)
      | (simp only [evOp, h]; done)

/-- where two tables agree on what an operation looks at, it does the same -/
theorem denOne_congr {call : Tgt → List Val → (Res → St → Prop) → St → Prop} {x : AOper} {E E' : Env} (h : ∀ k ∈ x.slots, E.get k = E'.get k) (X Ky : Val → St → Prop) (Kn : Prop) (s : St) :
    denOne call x E X Ky Kn s = denOne call x E' X Ky Kn s := by
  have hw : wanted E x.guard = wanted E' x.guard := by
    unfold AOper.slots at h
    cases hg : x.guard with
    | none => rfl
    | some g =>
      obtain ⟨j, b⟩ := g
      rw [hg] at h
      simp only [wanted, h j (by simp)]
  have ho : ∀ y ∈ x.opds, y.ev E = y.ev E' := by
    intro y hy
    cases y with
    | c v => rfl
    | t i =>
      refine h i ?_
      have : i ∈ x.opds.filterMap AOpd.slot := List.mem_filterMap.2 ⟨_, hy, rfl⟩
      unfold AOper.slots
      split
      · exact List.mem_cons_of_mem _ this
      · exact this
  cases x with
  | op d g o c =>
    simp only [AOper.guard] at hw
    simp only [denOne, hw, evOp_congr s ho]
  | call d g f args c =>
    simp only [AOper.guard] at hw
    have h1 : evs E args = evs E' args := evs_congr ho
    simp only [denOne, hw, h1]
  | callv d g f args c =>
    simp only [AOper.guard] at hw
    have h0 : f.ev E = f.ev E' := ho f (by simp [AOper.opds])
    have h1 : evs E args = evs E' args := evs_congr fun y hy => ho y (by simp [AOper.opds, hy])
    simp only [denOne, hw, h0, h1]
  | pan d g y =>
    simp only [AOper.guard] at hw
    have h0 : y.ev E = y.ev E' := ho y (by simp [AOper.opds])
    simp only [denOne, hw, h0]
  | dfr d g f args => rfl
  | nextMap d g it => rfl

mutual
theorem vbeq_eq : ∀ {a b : Val}, vbeq a b = true → a = b
  | .undef, b, h => by cases b <;> simp [vbeq] at h ⊢
  | .bool x, b, h => by cases b <;> simp [vbeq] at h ⊢; exact h
  | .int k x, b, h => by cases b <;> simp [vbeq] at h ⊢; exact h
  | .str x, b, h => by cases b <;> simp [vbeq] at h ⊢; exact h
  | .ptr x, b, h => by cases b <;> simp [vbeq] at h ⊢; exact h
  | .slice x n c, b, h => by cases b <;> simp [vbeq] at h ⊢; exact ⟨h.1.1, h.1.2, h.2⟩
  | .map x, b, h => by cases b <;> simp [vbeq] at h ⊢; exact h
  | .fn f p q, b, h => by
    cases b <;> simp [vbeq] at h ⊢
    exact ⟨h.1.1, vsbeq_eq h.1.2, vsbeq_eq h.2⟩
  | .nilFn, b, h => by cases b <;> simp [vbeq] at h ⊢
  | .yld l, b, h => by cases b <;> simp [vbeq] at h ⊢; exact h
  | .nilIface, b, h => by cases b <;> simp [vbeq] at h ⊢
  | .iface t x, b, h => by
    cases b <;> simp [vbeq] at h ⊢
    exact ⟨h.1, vbeq_eq h.2⟩
  | .agg x, b, h => by
    cases b <;> simp [vbeq] at h ⊢
    exact vsbeq_eq h
  | .tup x, b, h => by
    cases b <;> simp [vbeq] at h ⊢
    exact vsbeq_eq h
theorem vsbeq_eq : ∀ {a b : List Val}, vsbeq a b = true → a = b
  | [], b, h => by cases b <;> simp [vsbeq] at h ⊢
  | x :: r, b, h => by
    cases b <;> simp [vsbeq] at h ⊢
    exact ⟨vbeq_eq h.1, vsbeq_eq h.2⟩
end

/-- a light operation leaves the state as it is -/
theorem light_state {o : AOp} {E : Env} {s s' : St} {v : Val} (hk : o.kind = .pure ∨ o.kind = .read) (h : evOp o E s = some (v, s')) : s' = s := by
  cases o with
  | newRow e z => simp [AOp.kind] at hk
  | box e z => simp [AOp.kind] at hk
  | buildSlice e c l p => simp [AOp.kind] at hk
  | toBytes e x => simp [AOp.kind] at hk
  | mkMap => simp [AOp.kind] at hk
  | mkSlice e z b l c => simp [AOp.kind] at hk
  | noZero e x => simp [AOp.kind] at hk
  | store n a x => simp [AOp.kind] at hk
  | mapSet k a x y => simp [AOp.kind] at hk
  | append e n b x y => simp [AOp.kind] at hk
  | copy n x y => simp [AOp.kind] at hk
  | unsafeStr u x y => simp [AOp.kind] at hk
  | rangeStr x => simp [AOp.kind] at hk
  | rangeMap x => simp [AOp.kind] at hk
  | nextStr x => simp [AOp.kind] at hk
  | clearSl z x => simp [AOp.kind] at hk
  | appendMk e z n b x y => simp [AOp.kind] at hk
  | fail => simp [AOp.kind] at hk
  | _ =>
    clear hk
    simp only [evOp] at h
    repeat' split at h
    all_goals first
      | (simp only [Option.some.injEq, Prod.mk.injEq] at h; exact h.2.symm)
      | (cases h; done)
      | (simp only [Option.map_eq_some_iff, Prod.mk.injEq] at h; obtain ⟨_, _, _, h⟩ := h; exact h.symm)

/-- a pure operation does not look at the state -/
theorem pure_any {o : AOp} {E : Env} {s s' : St} {v : Val} (hk : o.kind = .pure) (h : evOp o E s = some (v, s)) : evOp o E s' = some (v, s') := by
  cases o with
  | newRow e z => simp [AOp.kind] at hk
  | box e z => simp [AOp.kind] at hk
  | buildSlice e c l p => simp [AOp.kind] at hk
  | toBytes e x => simp [AOp.kind] at hk
  | mkMap => simp [AOp.kind] at hk
  | mkSlice e z b l c => simp [AOp.kind] at hk
  | noZero e x => simp [AOp.kind] at hk
  | store n a x => simp [AOp.kind] at hk
  | mapSet k a x y => simp [AOp.kind] at hk
  | append e n b x y => simp [AOp.kind] at hk
  | copy n x y => simp [AOp.kind] at hk
  | unsafeStr u x y => simp [AOp.kind] at hk
  | rangeStr x => simp [AOp.kind] at hk
  | rangeMap x => simp [AOp.kind] at hk
  | nextStr x => simp [AOp.kind] at hk
  | clearSl z x => simp [AOp.kind] at hk
  | appendMk e z n b x y => simp [AOp.kind] at hk
  | fail => simp [AOp.kind] at hk
  | load n a => simp [AOp.kind] at hk
  | entry x => simp [AOp.kind] at hk
  | fromBytes a => simp [AOp.kind] at hk
  | lookup k z ok x i => simp [AOp.kind] at hk
  | sliceSl z x lo hi mx => simp [AOp.kind] at hk
  | eq k n x y => simp [AOp.kind] at hk
  | toUnsafe x => simp [AOp.kind] at hk
  | fromUnsafe u z x => simp [AOp.kind] at hk
  | sliceArr l z x lo hi mx =>
    clear hk
    simp only [evOp] at h ⊢
    split at h
    · rename_i a ha
      simp only [Option.map_eq_some_iff, Prod.mk.injEq] at h ⊢
      obtain ⟨v', h1, rfl, _⟩ := h
      exact ⟨_, h1, rfl, trivial⟩
    · cases h
  | len k x =>
    cases k with
    | map => simp [AOp.kind] at hk
    | _ =>
      clear hk
      simp only [evOp] at h ⊢
      repeat' split at h
      all_goals first
        | (simp only [Option.some.injEq, Prod.mk.injEq] at h; obtain ⟨rfl, _⟩ := h; simp only [*])
        | (cases h; done)
  | _ =>
    clear hk
    simp only [evOp] at h ⊢
    repeat' split at h
    all_goals first
      | (simp only [Option.some.injEq, Prod.mk.injEq] at h; obtain ⟨rfl, _⟩ := h; first | rfl | (simp only [*]; done) | (simp [*]; done))
      | (cases h; done)
      | (simp only [Option.map_eq_some_iff, Prod.mk.injEq] at h; obtain ⟨v', h1, rfl, _⟩ := h; simp [*]; done)
end Am
