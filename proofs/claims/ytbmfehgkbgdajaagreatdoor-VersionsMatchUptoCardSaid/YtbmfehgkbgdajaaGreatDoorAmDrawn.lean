/- A region that draws its order. -/
import Derived.Test.YtbmfehgkbgdajaaGreatDoorAmAlloc
set_option linter.all false
namespace Am
open Go (IntKind BinOp UnOp FuncId TypeId Program Value World Addr Obj Operand Oper Op Sem Act Code Exit Calls Ending)

theorem setO_get (E : Env) (d : Option Nat) (v : Val) (k : Nat) : (setO E d v).get k = if d = some k then v else E.get k := by
  cases d with
  | none => simp [setO]
  | some d =>
    simp only [setO, Env.get_set, Option.some.injEq]
    by_cases h : k = d
    · subst h; simp
    · rw [if_neg h, if_neg (Ne.symm h)]

theorem setO_ds (E : Env) (d : Option Nat) (v : Val) : (setO E d v).ds = E.ds := by cases d <;> rfl

theorem dropL_ds : ∀ (l : List Nat) (E : Env), (dropL E l).ds = E.ds
  | [], _ => rfl
  | _ :: r, _ => by rw [dropL, dropL_ds r]; rfl

theorem dropL_get : ∀ (l : List Nat) (E : Env) (k : Nat), (dropL E l).get k = if k ∈ l then .undef else E.get k
  | [], E, k => by simp [dropL]
  | i :: r, E, k => by
    rw [dropL, dropL_get r, Env.get_set]
    by_cases h1 : k ∈ r
    · simp [h1]
    · by_cases h2 : k = i <;> simp [h1, h2]

def isL (listed : Array Bool) (i : Nat) : Prop := listed.getD i false = true

theorem isL_set {listed : Array Bool} {i : Nat} (hi : i < listed.size) (j : Nat) : isL (listed.setIfInBounds i true) j ↔ isL listed j ∨ j = i := by
  unfold isL
  rw [Array.getD_eq_getD_getElem?, Array.getD_eq_getD_getElem?]
  by_cases h : j = i
  · subst h; simp [hi]
  · rw [Array.getElem?_setIfInBounds_ne (Ne.symm h)]; simp [h]

/-- a light operation whose value is known already, and would be the same if it were made now -/
def Pend (x : AOper) (E : Env) (T : St) (φ : Phi) (lo : Nat) (nm : Option Nat) : Prop :=
  ∃ d g o c, x = .op d g o c ∧
    ((wanted E g = .no ∧ ∀ k, d = some k → E.get k = .tup []) ∨
     (wanted E g = .yes ∧ (o.kind = .pure ∨ o.kind = .read) ∧ ∃ v, evOp o E T = some (v, T) ∧ ∀ k, d = some k → E.get k = v) ∨
     (wanted E g = .yes ∧ o.kind = .alloc ∧ ∃ f blk n, nm = some n ∧ allocOf o E = some (f, blk) ∧ (∀ k, d = some k → E.get k = f n) ∧ T.heap.get n = some blk ∧ φ n = .unk ∧ lo ≤ n))

theorem wanted_congr {x : AOper} {E E' : Env} (h : ∀ k ∈ x.slots, E.get k = E'.get k) : wanted E x.guard = wanted E' x.guard := by
  unfold AOper.slots at h
  cases hg : x.guard with
  | none => rfl
  | some g =>
    obtain ⟨j, b⟩ := g
    rw [hg] at h
    simp only [wanted, h j (by simp)]

theorem evOp_slots {x : AOper} {d : Option Nat} {g : Option (Nat × Bool)} {o : AOp} {c : Chk} (hx : x = .op d g o c) {E E' : Env} (h : ∀ k ∈ x.slots, E.get k = E'.get k) (s : St) : evOp o E s = evOp o E' s := by
  subst hx
  refine evOp_congr s fun y hy => ?_
  cases y with
  | c v => rfl
  | t i =>
    refine h i ?_
    have : i ∈ (AOper.op d g o c).opds.filterMap AOpd.slot := List.mem_filterMap.2 ⟨_, hy, rfl⟩
    unfold AOper.slots
    split
    · exact List.mem_cons_of_mem _ this
    · exact this

theorem opds_slots {x : AOper} {d : Option Nat} {g : Option (Nat × Bool)} {o : AOp} {c : Chk} (hx : x = .op d g o c) {E E' : Env} (h : ∀ k ∈ x.slots, E.get k = E'.get k) : ∀ y ∈ o.opds, y.ev E = y.ev E' := by
  subst hx
  intro y hy
  cases y with
  | c v => rfl
  | t i =>
    refine h i ?_
    have : i ∈ (AOper.op d g o c).opds.filterMap AOpd.slot := List.mem_filterMap.2 ⟨_, hy, rfl⟩
    unfold AOper.slots
    split
    · exact List.mem_cons_of_mem _ this
    · exact this

theorem Pend.keep {x : AOper} {E E' : Env} {T T' : St} {φ φ' : Phi} {lo : Nat} {nm : Option Nat} (h : Pend x E T φ lo nm) (hsl : ∀ k ∈ x.slots, E.get k = E'.get k) (hds : ∀ k, x.dst = some k → E'.get k = E.get k)
    (hread : ∀ d g o c, x = .op d g o c → o.kind = .read → wanted E' g = .yes → T' = T ∨ ∃ v, evOp o E' T' = some (v, T') ∧ ∀ k, d = some k → E'.get k = v)
    (halloc : ∀ n blk, nm = some n → T.heap.get n = some blk → φ n = .unk → T'.heap.get n = some blk ∧ φ' n = .unk) : Pend x E' T' φ' lo nm := by
  obtain ⟨d, g, o, c, hx, hcase⟩ := h
  refine ⟨d, g, o, c, hx, ?_⟩
  have hw := wanted_congr hsl
  have hg : x.guard = g := by rw [hx]; rfl
  have hd : x.dst = d := by rw [hx]; rfl
  rw [hg] at hw
  rcases hcase with ⟨h1, h2⟩ | ⟨h1, hk, v, h2, h3⟩ | ⟨h1, hk, f, blk, n, h2, h3, h4, h5, h6, h7⟩
  · exact .inl ⟨by rw [← hw]; exact h1, fun k hk => by rw [hds k (hd.trans hk)]; exact h2 k hk⟩
  · have hw' : wanted E' g = .yes := by rw [← hw]; exact h1
    have same : evOp o E' T = some (v, T) := by rw [← evOp_slots hx hsl T]; exact h2
    have hv : ∀ k, d = some k → E'.get k = v := fun k hk => by rw [hds k (hd.trans hk)]; exact h3 k hk
    refine .inr (.inl ⟨hw', hk, ?_⟩)
    rcases hk with hk | hk
    · exact ⟨v, pure_any hk same, hv⟩
    · rcases hread d g o c hx hk hw' with he | he
      · rw [he]; exact ⟨v, same, hv⟩
      · exact he
  · obtain ⟨h8, h9⟩ := halloc n blk h2 h5 h6
    exact .inr (.inr ⟨by rw [← hw]; exact h1, hk, f, blk, n, h2, by rw [← allocOf_congr (opds_slots hx hsl)]; exact h3, fun k hk => by rw [hds k (hd.trans hk)]; exact h4 k hk, h8, h9, h7⟩)

section
variable {call : Tgt → List Val → (Res → St → Prop) → St → Prop}

theorem denOne_withChk (x : AOper) (c : Chk) (E : Env) (X Ky : Val → St → Prop) (Kn : Prop) (s : St) : denOne call (withChk x c) E X Ky Kn s = denOne call x E X Ky Kn s := by
  cases x <;> rfl
end
theorem denOps_chk {call : Tgt → List Val → (Res → St → Prop) → St → Prop} (x : AOper) (hx : x.calm = true) (c : Chk) (r : List AOper) (E : Env) (X : Val → Env → St → Prop) (K : Env → St → Prop) (s : St) :
    denOps call (withChk x c :: r) E X K s = denOne call x E (fun v s => X v E s) (fun v s' => goOn c (setO E x.dst v) s' fun E s => denOps call r E X K s) (denOps call r (setO E x.dst (.tup [])) X K s) s := by
  cases x <;> first | rfl | cases hx
theorem withChk_dst (x : AOper) (c : Chk) : (withChk x c).dst = x.dst := by cases x <;> rfl
theorem withChk_calm (x : AOper) (c : Chk) : (withChk x c).calm = x.calm := by cases x <;> rfl
theorem chkOk_withChk (x : AOper) (c : Chk) (E : Env) (s : St) : (withChk x c).chk = c ∨ (withChk x c).chk = x.chk := by cases x <;> first | exact .inl rfl | exact .inr rfl

theorem chkOk_mem {E : Env} {s : St} : ∀ {l : Chk}, chkOk E s l = true → ∀ {d g o}, (d, g, o) ∈ l → wanted E g = .yes → ∃ v s', evOp o E s = some (v, s') ∧ ∀ k, d = some k → E.get k = v
  | [], _, _, _, _, hm, _ => by cases hm
  | (d', g', o') :: r, h, d, g, o, hm, hw => by
    simp only [chkOk, Bool.and_eq_true] at h
    rcases List.mem_cons.1 hm with he | hm
    · simp only [Prod.mk.injEq] at he
      obtain ⟨rfl, rfl, rfl⟩ := he
      have h1 := h.1
      rw [hw] at h1
      simp only at h1
      split at h1
      · rename_i v s' he
        refine ⟨v, s', he, ?_⟩
        intro k hk
        subst hk
        exact vbeq_eq h1
      · cases h1
    · exact chkOk_mem h.2 hm hw

theorem light_op {x : AOper} (h : x.light = true) : ∃ d g o c, x = .op d g o c ∧ o.kind ≠ .heavy := by
  unfold AOper.light at h
  cases x with
  | op d g o c => exact ⟨d, g, o, c, rfl, by simpa [AOper.kind] using h⟩
  | _ => simp [AOper.kind] at h

theorem It.light_x {c : It} (h : c.light = true) : c.x.light = true := by
  unfold It.light at h
  split at h
  · cases h
  · exact h

theorem light_of {c : It} (h : ¬ c.light = true) : c.light = false := by
  cases h' : c.light
  · rfl
  · exact absurd h' h

/-! ### What holds while a region is made -/

/-- what is known before -/
structure Stat (P : Program) (N : Nat) (ops : Array Oper) (rnd : Bool) (mask : List Nat) (m : List Nat) (its : List It) : Prop where
  at_ : ∀ c ∈ its, ops[c.i]? = some c.o
  comp : ∀ c ∈ its, compOper P ops rnd c.o = c.x
  calm : ∀ c ∈ its, c.x.calm = true
  mask : ∀ c ∈ its, ∀ k, c.x.dst = some k → k ∈ mask
  all : ∀ i, i < ops.size → ∃ c ∈ its, c.i = i
  told : Told ops.toList m
  topo : Topo its
  dst : ∀ c ∈ its, ∀ d, c.o.dst = some d → d < N

theorem Stat.same {P : Program} {N : Nat} {ops : Array Oper} {rnd : Bool} {mask : List Nat} {m : List Nat} {its : List It} (h : Stat P N ops rnd mask m its) {c c' : It} (hc : c ∈ its) (hc' : c' ∈ its) (he : c.i = c'.i) : c.x = c'.x := by
  have h1 := h.at_ c hc
  rw [he, h.at_ c' hc'] at h1
  injection h1 with h1
  have h2 := h.comp c hc
  rw [← h1, h.comp c' hc'] at h2
  exact h2.symm

theorem Stat.dstx {P : Program} {N : Nat} {ops : Array Oper} {rnd : Bool} {mask : List Nat} {m : List Nat} {its : List It} (h : Stat P N ops rnd mask m its) {c : It} (hc : c ∈ its) : c.x.dst = c.o.dst := compOper_dst (h.comp c hc)

structure Inv (P : Program) (W0 : Ctx) (N : Nat) (ops : Array Oper) (m : List Nat) (its : List It) (call : Tgt → List Val → (Res → St → Prop) → St → Prop) (X : Val → Env → St → Prop) (K : Env → St → Prop)
    (φ0 : Phi) (s0 : St) (w0 : World) (listed : Array Bool) (a : Act) (w : World) (done rest : List It) (E : Env) (T : St) (φ : Phi) (num : Nat → Option Nat) : Prop where
  its : done.reverse ++ rest = its
  pair : done.Pairwise fun b a => PairOk m a b
  self : ∀ c ∈ done, c.light = true → ∀ d, c.x.dst = some d → d ∉ c.x.slots
  den : ∃ xs, order m rest done = some xs ∧ denOps call xs E X K T
  g : GRel φ P.globals.size
  n : N ≤ a.tmps.size
  d : DRel φ E.ds a.defers
  slots : ∀ k, (∀ c ∈ done, c.x.dst = some k → isL listed c.i) → VRel φ (E.get k) (a.tmps.getD k Go.undef)
  heavy : ∀ c ∈ done, c.light = false → isL listed c.i
  rest : ∀ c ∈ rest, ¬ isL listed c.i
  pend : ∀ c ∈ done, ¬ isL listed c.i → Pend c.x E T φ s0.next (num c.i)
  numInj : ∀ c ∈ done, ∀ c' ∈ done, ∀ n, num c.i = some n → num c'.i = some n → c.i = c'.i
  numLt : ∀ c ∈ done, ∀ n, num c.i = some n → n < T.next
  r0 : R W0 φ0 s0 w0
  post : Post W0 φ0 s0 w0 φ T w
  closed : Closed ops.toList (isL listed)
  size : listed.size = ops.size

section
variable {G : Ctx → Prop} {P : Program} {W0 : Ctx} {N : Nat} {ops : Array Oper} {rnd : Bool} {mask : List Nat} {m : List Nat} {its : List It} {call : Tgt → List Val → (Res → St → Prop) → St → Prop} {X : Val → Env → St → Prop} {K : Env → St → Prop} {r : Option Nat} {n : Nat}
  {φ0 : Phi} {s0 : St} {w0 : World} {listed : Array Bool} {a : Act} {w : World} {done rest : List It} {E : Env} {T : St} {φ : Phi} {num : Nat → Option Nat}

theorem pairwise_two {α : Type} {r : α → α → Prop} : ∀ {l : List α}, l.Pairwise r → ∀ x ∈ l, ∀ y ∈ l, x = y ∨ r x y ∨ r y x
  | [], _, _, hx, _, _ => by cases hx
  | a :: l, h, x, hx, y, hy => by
    rw [List.pairwise_cons] at h
    rcases List.mem_cons.1 hx with hx1 | hx1 <;> rcases List.mem_cons.1 hy with hy1 | hy1
    · exact .inl (hx1.trans hy1.symm)
    · subst hx1; exact .inr (.inl (h.1 y hy1))
    · subst hy1; exact .inr (.inr (h.1 x hx1))
    · exact pairwise_two h.2 x hx1 y hy1

theorem Inv.done_its (h : Inv P W0 N ops m its call X K φ0 s0 w0 listed a w done rest E T φ num) {c : It} (hc : c ∈ done) : c ∈ its := by
  rw [← h.its]; simp [hc]
theorem Inv.rest_its (h : Inv P W0 N ops m its call X K φ0 s0 w0 listed a w done rest E T φ num) {c : It} (hc : c ∈ rest) : c ∈ its := by
  rw [← h.its]; simp [hc]

/-- the slots of operations that the model has yet to make -/
def openSlots (listed : Array Bool) (done : List It) : List Nat := done.filterMap fun c => if listed.getD c.i false then none else c.x.dst

theorem mem_openSlots {k : Nat} : k ∈ openSlots listed done ↔ ∃ c ∈ done, ¬ isL listed c.i ∧ c.x.dst = some k := by
  unfold openSlots isL
  simp only [List.mem_filterMap]
  constructor
  · rintro ⟨c, hc, h⟩
    split at h
    · cases h
    · rename_i hl; exact ⟨c, hc, hl, h⟩
  · rintro ⟨c, hc, hl, h⟩
    exact ⟨c, hc, by rw [if_neg hl]; exact h⟩

theorem Inv.masked (h : Inv P W0 N ops m its call X K φ0 s0 w0 listed a w done rest E T φ num) : ERel φ (dropL E (openSlots listed done)) a.tmps := by
  intro k
  rw [dropL_get]
  by_cases hk : k ∈ openSlots listed done
  · rw [if_pos hk]; trivial
  · rw [if_neg hk]
    refine h.slots k fun c hc hd => ?_
    by_cases hl : isL listed c.i
    · exact hl
    · exact absurd (mem_openSlots.2 ⟨c, hc, hl, hd⟩) hk

theorem Inv.bits (st : Stat P N ops rnd mask m its) (h : Inv P W0 N ops m its call X K φ0 s0 w0 listed a w done rest E T φ num) {c : It} (hc : c ∈ its)
    (hp : ∀ e ∈ c.o.after.toList, bindsAny e = true → isL listed e.on) {i : Nat} (hb : bit m c.i i = true) : isL listed i := by
  refine closed_bit st.told h.closed c.i c.o ?_ hp i hb
  have := st.at_ c hc
  simpa using this

/-- what the model reads for an operation that it makes now has been made -/
theorem Inv.reads (st : Stat P N ops rnd mask m its) (h : Inv P W0 N ops m its call X K φ0 s0 w0 listed a w done rest E T φ num) {c : It} (hc : c ∈ its)
    (hp : ∀ e ∈ c.o.after.toList, bindsAny e = true → isL listed e.on) (hcase : (c ∈ done ∧ ¬ isL listed c.i) ∨ ∀ b ∈ done, PairOk m b c) :
    ∀ k ∈ c.x.slots, E.get k = (dropL E (openSlots listed done)).get k := by
  intro k hk
  rw [dropL_get, if_neg]
  intro hm
  obtain ⟨c', hc', hl, hd⟩ := mem_openSlots.1 hm
  rcases hcase with ⟨hcd, hcl⟩ | hall
  · have hlight : c.light = true := by
      cases hh : c.light
      · exact absurd (h.heavy c hcd hh) hcl
      · rfl
    rcases pairwise_two h.pair c hcd c' hc' with rfl | h1 | h1
    · exact h.self c hcd hlight k hd hk
    · exact hl (h.bits st hc hp (h1.raw k hd hk))
    · exact hl (h.heavy c' hc' (h1.war k hd hk).1)
  · exact hl (h.bits st hc hp ((hall c' hc').raw k hd hk))

theorem put_tmps {a : Act} {d : Option Nat} (hd : ∀ k, d = some k → k < a.tmps.size) (v : Value) (k : Nat) :
    (a.put d v).tmps.getD k Go.undef = if d = some k then v else a.tmps.getD k Go.undef := by
  cases d with
  | none => simp [Go.Act.put]
  | some d =>
    have hlt := hd d rfl
    by_cases h : d = k
    · subst h; simp [Go.Act.put, Array.getD_eq_getD_getElem?, hlt]
    · simp [Go.Act.put, Array.getD_eq_getD_getElem?, Array.getElem?_setIfInBounds_ne h, h]

theorem put_size {a : Act} {d : Option Nat} (v : Value) : (a.put d v).tmps.size = a.tmps.size ∧ (a.put d v).defers = a.defers := by
  cases d with
  | none => exact ⟨rfl, rfl⟩
  | some d => simp [Go.Act.put]

theorem Closed.insert (h : Closed ops.toList (isL listed)) {c : It} (hc : ops[c.i]? = some c.o) (hi : c.i < listed.size) (hp : ∀ e ∈ c.o.after.toList, bindsAny e = true → isL listed e.on) :
    Closed ops.toList (isL (listed.setIfInBounds c.i true)) := by
  intro j o hj ho e he hb
  rw [isL_set hi] at hj ⊢
  rcases hj with hj | rfl
  · exact .inl (h j o hj ho e he hb)
  · have : ops[c.i]? = some o := by simpa using ho
    rw [hc] at this; injection this with this; subst this
    exact .inl (hp e he hb)

theorem lt_of_at {i : Nat} {o : Oper} (h : ops[i]? = some o) : i < ops.size := by
  rcases Nat.lt_or_ge i ops.size with h1 | h1
  · exact h1
  · rw [Array.getElem?_eq_none h1] at h; cases h

/-- the model makes a light operation that the abstract machine has made before -/
theorem Inv.late (hP : Fits G P W0) (st : Stat P N ops rnd mask m its) (h : Inv P W0 N ops m its call X K φ0 s0 w0 listed a w done rest E T φ num) {c : It} (hc : c ∈ done) (hcl : ¬ isL listed c.i)
    (hp : ∀ e ∈ c.o.after.toList, bindsAny e = true → isL listed e.on) {Q : Exit → Act → World → Prop} {next : Act → World → Prop}
    (hnext : ∀ φ' a' w', Inv P W0 N ops m its call X K φ0 s0 w0 (listed.setIfInBounds c.i true) a' w' done rest E T φ' num → next a' w') : Go.wpOpIn (FR r) n P ops Q c.i next a w := by
  have hci := h.done_its hc
  have hat := st.at_ c hci
  have hlt : c.i < listed.size := by rw [h.size]; exact lt_of_at hat
  have hdx := st.dstx hci
  have hdlt : ∀ k, c.o.dst = some k → k < a.tmps.size := fun k hk => Nat.lt_of_lt_of_le (st.dst c hci k hk) h.n
  have hrd := h.reads st hci hp (.inl ⟨hc, hcl⟩)
  have go : ∀ φ' v v' w', (∀ k, c.x.dst = some k → E.get k = v) → VRel φ' v v' → PLe φ φ' → Post W0 φ0 s0 w0 φ' T w' → (∀ c' ∈ done, c'.i ≠ c.i → ∀ n, num c'.i = some n → φ n = .unk → φ' n = .unk) → next (a.put c.o.dst v') w' := by
    intro φ' v v' w' hv hvr hple hpost hunk
    refine hnext φ' _ w' ⟨h.its, h.pair, h.self, h.den, h.g.mono hple, by rw [(put_size v').1]; exact h.n, by rw [(put_size v').2]; exact h.d.mono hple, ?_, ?_, ?_, ?_, h.numInj, h.numLt, h.r0, hpost, h.closed.insert hat hlt hp, by simp [h.size]⟩
    · intro k hk
      rw [put_tmps hdlt]
      by_cases hck : c.o.dst = some k
      · rw [if_pos hck, hv k (by rw [hdx]; exact hck)]; exact hvr
      · rw [if_neg hck]
        refine (h.slots k fun c' hc' hd => ?_).mono hple
        rcases (isL_set hlt c'.i).1 (hk c' hc' hd) with h1 | h1
        · exact h1
        · have := st.same (h.done_its hc') hci h1
          rw [this, hdx] at hd
          exact absurd hd hck
    · intro c' hc' hh; rw [isL_set hlt]; exact .inl (h.heavy c' hc' hh)
    · intro c' hc' hh
      rw [isL_set hlt] at hh
      rcases hh with hh | hh
      · exact h.rest c' hc' hh
      · obtain ⟨xs, hxs, _⟩ := h.den
        exact (order_pair hxs c hc c' hc').ne hh.symm
    · intro c' hc' hh
      rw [isL_set hlt] at hh
      exact (h.pend c' hc' fun h1 => hh (.inl h1)).keep (fun _ _ => rfl) (fun _ _ => rfl) (fun _ _ _ _ _ _ _ => .inl rfl) fun n blk h1 h2 h3 => ⟨h2, hunk c' hc' (fun h4 => hh (.inr h4)) n h1 h3⟩
  obtain ⟨d, g, o, ch, hx, hcase⟩ := h.pend c hc hcl
  have hgx : c.x.guard = g := by rw [hx]; rfl
  have hd2 : c.x.dst = d := by rw [hx]; rfl
  have hw := wanted_congr hrd
  rw [hgx] at hw
  have light : ∀ {Ky : Val → St → Prop} {Kn : Prop}, denOne call c.x E (fun _ _ => False) Ky Kn T → (∀ v s', Ky v s' → s' = T ∧ ∀ k, c.x.dst = some k → E.get k = v) → (Kn → ∀ k, c.x.dst = some k → E.get k = .tup []) → Go.wpOpIn (FR r) n P ops Q c.i next a w := by
    intro Ky Kn hone hy hn
    rw [denOne_congr hrd] at hone
    have := one_sound (call := fun _ _ _ _ => False) ⟨fun _ _ _ _ hf => hf.elim, fun _ _ _ _ _ hf => hf.elim, fun _ _ _ _ hf => hf.elim⟩ hP (st.comp c hci) h.post.rel h.masked h.g (by rw [hx] at hone ⊢; exact hone) (X := fun _ _ => False) (Ky := Ky) (Kn := Kn) (r := r) (n := n) (Q := Q) (next := next) (fun _ _ _ _ _ (hf : False) => hf.elim) (fun φ' v v' s' w' hk hv hpo => by
      obtain ⟨rfl, hk⟩ := hy v s' hk
      refine go φ' v v' w' hk hv hpo.ple (Post.trans h.r0 h.post hpo) ?_
      intro c' hc' _ n hn hu
      rcases hpo.stay n (h.numLt c' hc' n hn) with h1 | h1
      · rw [h1]; exact hu
      · exact absurd hu h1.2.1) (fun hk => go φ (.tup []) Go.undef w (hn hk) undefRel (PLe.refl φ) h.post fun _ _ _ _ _ hu => hu)
    unfold Go.wpOpIn
    rw [hat]
    rcases this with ⟨h1, h2⟩ | ⟨h1, h2⟩
    · simp only [h1, if_true]; exact h2
    · simp only [h1]; exact ⟨fun _ _ => trivial, h2⟩
  rcases hcase with ⟨h1, h2⟩ | ⟨h1, hk, v, h2, h3⟩ | ⟨h1, hk, f, blk, n, h2, h3, h4, h5, h6, h7⟩
  · refine light (Ky := fun _ _ => False) (Kn := True) ?_ (fun _ _ hf => hf.elim) fun _ k hk => h2 k (hd2.symm.trans hk)
    rw [hx]; simp only [denOne, h1]
  · refine light (Ky := fun v' s' => v' = v ∧ s' = T) (Kn := False) ?_ ?_ fun hf => hf.elim
    · rw [hx]; simp only [denOne, h1, h2]; exact ⟨trivial, trivial⟩
    · rintro v' s' ⟨rfl, rfl⟩
      exact ⟨rfl, fun k hk => h3 k (hd2.symm.trans hk)⟩
  · have hcomp := st.comp c hci
    rw [hx] at hcomp
    obtain ⟨hcop, hgd⟩ := compOper_alloc hcomp hk
    have hwant := (guard_sound hgd h.masked).1 (by rw [← hw]; exact h1)
    rw [allocOf_congr (opds_slots hx hrd)] at h3
    obtain ⟨v', w', obj, sz, hrun, e1, e2, e3, hval, hblk, _⟩ := alloc_sound (w := w) h.masked h.g hcop hk h3
    have hnx := go (φ.ext n (.at w.heap.size sz)) (f n) v' w' (fun k hk => h4 k (hd2.symm.trans hk)) (hval _ n (Phi.ext_same _ _ _)) (PLe.know h6) (h.post.know h7 h5 h6 e1 e2 e3 (by rw [hP.1]; exact hblk)) (by
      intro c' hc' hne n' hn' hu
      have : n' ≠ n := by
        rintro rfl
        exact hne (h.numInj c' hc' c hc n' hn' h2)
      rw [Phi.ext_ne _ _ this]; exact hu)
    unfold Go.wpOpIn
    rw [hat]
    simp only [hwant, if_true]
    refine wpIn_of (compOp_noDefer hcop) ?_
    rw [hrun]
    exact hnx

/-- the abstract machine goes ahead with a light operation -/
theorem Inv.ahead (st : Stat P N ops rnd mask m its) {b : It} (h : Inv P W0 N ops m its call X K φ0 s0 w0 listed a w done (b :: rest) E T φ num) (hb : b.light = true) :
    ∃ E' T' num', Inv P W0 N ops m its call X K φ0 s0 w0 listed a w (b :: done) rest E' T' φ num' := by
  obtain ⟨xs, hxs, hden⟩ := h.den
  obtain ⟨hs, ys, hys, rfl⟩ := order_cons hxs
  have hbi := h.rest_its (c := b) (by simp)
  obtain ⟨d, g, o, c, hx, hk⟩ := light_op (It.light_x hb)
  have hnl : ¬ isL listed b.i := h.rest b (by simp)
  rw [denOps_chk _ (st.calm b hbi)] at hden
  have hself := hs.self hb
  have hdx : b.x.dst = d := by rw [hx]; rfl
  have hgx : b.x.guard = g := by rw [hx]; rfl
  -- what goes on
  have go : ∀ v T' (nm : Option Nat), denOps call ys (setO E d v) X K T' → Pend b.x (setO E d v) T' φ s0.next nm → Post W0 φ0 s0 w0 φ T' w → (T' = T ∨ (o.kind = .alloc ∧ chkOk (setO E d v) T' (chks m done b) = true)) →
      (∀ n, n < T.next → T'.heap.get n = T.heap.get n) → T.next ≤ T'.next → (∀ n, nm = some n → T.next ≤ n ∧ n < T'.next) → ∃ E' T' num', Inv P W0 N ops m its call X K φ0 s0 w0 listed a w (b :: done) rest E' T' φ num' := by
    intro v T' nm hd hpb hpost hchk hget hnx hnm
    have hnum : ∀ c ∈ done, (if c.i = b.i then nm else num c.i) = num c.i := fun c hc => if_neg (hs.pair c hc).ne
    refine ⟨setO E d v, T', fun j => if j = b.i then nm else num j, ⟨by rw [← h.its]; simp, List.pairwise_cons.2 ⟨fun c hc => hs.pair c hc, h.pair⟩, ?_, ⟨ys, hys, hd⟩, h.g, h.n, by rw [setO_ds]; exact h.d, ?_, ?_, ?_, ?_, ?_, ?_, h.r0, hpost, h.closed, h.size⟩⟩
    · intro c hc hl
      rcases List.mem_cons.1 hc with rfl | hc
      · exact hself
      · exact h.self c hc hl
    · intro k hk2
      have hne : d ≠ some k := fun he => hnl (hk2 b (by simp) (hdx.trans he))
      rw [setO_get, if_neg hne]
      exact h.slots k fun c hc hdk => hk2 c (by simp [hc]) hdk
    · intro c hc hl
      rcases List.mem_cons.1 hc with rfl | hc
      · rw [hb] at hl; cases hl
      · exact h.heavy c hc hl
    · intro c hc; exact h.rest c (by simp [hc])
    · intro c hc hl
      rcases List.mem_cons.1 hc with rfl | hc
      · simp only [if_true]; exact hpb
      · simp only [hnum c hc]
        have hpr := hs.pair c hc
        refine (h.pend c hc hl).keep ?_ ?_ ?_ ?_
        · intro k hk
          rw [setO_get, if_neg]
          intro he
          have := (hpr.war k (hdx.trans he) hk).1
          rw [hb] at this; cases this
        · intro k hk
          rw [setO_get, if_neg]
          intro he
          exact hpr.waw k hk (hdx.trans he)
        · intro d2 g2 o2 c2 hx2 hk2 hw2
          rcases hchk with rfl | ⟨hka, hchk⟩
          · exact .inl rfl
          · refine .inr ?_
            have hcl : c.light = true := by
              cases hh : c.light
              · exact absurd (h.heavy c hc hh) hl
              · rfl
            have hmem : (d2, g2, o2) ∈ chks m done b := by
              unfold chks
              have hbk : b.x.kind = .alloc := by rw [hx]; exact hka
              rw [if_neg (by rw [hbk]; simp)]
              refine List.mem_filterMap.2 ⟨c, hc, ?_⟩
              rw [hx2]
              simp [hcl, hk2, hb]
            obtain ⟨v4, s4, h4, h5⟩ := chkOk_mem hchk hmem hw2
            have := light_state (.inr hk2) h4
            subst this
            exact ⟨v4, h4, h5⟩
        · intro n blk h1 h2 h3
          exact ⟨by rw [hget n (h.numLt c hc n h1)]; exact h2, h3⟩
    · intro c hc c' hc' n h1 h2
      rcases List.mem_cons.1 hc with e1 | hd1 <;> rcases List.mem_cons.1 hc' with e2 | hd2
      · rw [e1, e2]
      · rw [e1] at h1
        simp only [if_true] at h1
        simp only [hnum c' hd2] at h2
        have := (hnm n h1).1
        have := h.numLt c' hd2 n h2
        omega
      · rw [e2] at h2
        simp only [if_true] at h2
        simp only [hnum c hd1] at h1
        have := (hnm n h2).1
        have := h.numLt c hd1 n h1
        omega
      · simp only [hnum c hd1] at h1
        simp only [hnum c' hd2] at h2
        exact h.numInj c hd1 c' hd2 n h1 h2
    · intro c hc n h1
      rcases List.mem_cons.1 hc with e1 | hc
      · subst e1
        simp only [if_true] at h1
        exact (hnm n h1).2
      · simp only [hnum c hc] at h1
        have := h.numLt c hc n h1
        omega
  have hslf : ∀ v, ∀ k ∈ b.x.slots, E.get k = (setO E d v).get k := by
    intro v k hk
    rw [setO_get, if_neg]
    intro he
    exact hself k (hdx.trans he) hk
  rw [hdx] at hden
  rw [hx] at hden
  simp only [denOne] at hden
  split at hden
  · rename_i hw
    split at hden
    · rename_i v s' he
      obtain ⟨hgo, hck⟩ := goOn_iff hden
      have hww : wanted (setO E d v) g = .yes := by have := wanted_congr (hslf v); rw [hgx] at this; rw [← this]; exact hw
      by_cases hka : o.kind = .alloc
      · rw [evOp_alloc hka] at he
        simp only [Option.map_eq_some_iff, Prod.mk.injEq] at he
        obtain ⟨⟨f, blk⟩, h1, rfl, rfl⟩ := he
        have hr := h.post.rel
        have hget : ∀ n, (T.alloc blk).heap.get n = if n = T.next then some blk else T.heap.get n := fun n => PM.get_set _ _ _ _
        refine go _ _ (some T.next) hgo ⟨d, g, o, c, hx, .inr (.inr ⟨hww, hka, f, blk, T.next, rfl, ?_, ?_, ?_, (hr.fresh _ (Nat.le_refl _)).1, h.post.next⟩)⟩ (h.post.ahead h.r0 blk) (.inr ⟨hka, hck⟩) ?_ (Nat.le_succ _) ?_
        · rw [← allocOf_congr (opds_slots hx (hslf _))]; exact h1
        · intro k hk; rw [setO_get, if_pos hk]
        · rw [hget, if_pos rfl]
        · intro n hn; rw [hget, if_neg (by omega)]
        · intro n hn; injection hn with hn; subst hn; exact ⟨Nat.le_refl _, Nat.lt_succ_self _⟩
      · have hk2 : o.kind = .pure ∨ o.kind = .read := by
          cases hkk : o.kind with
          | pure => exact .inl rfl
          | read => exact .inr rfl
          | alloc => exact absurd hkk hka
          | heavy => exact absurd hkk hk
        have := light_state hk2 he
        subst this
        refine go v s' none hgo ⟨d, g, o, c, hx, .inr (.inl ⟨hww, hk2, v, ?_, ?_⟩)⟩ h.post (.inl rfl) (fun _ _ => rfl) (Nat.le_refl _) (fun n hn => by cases hn)
        · rw [← evOp_slots hx (hslf v)]; exact he
        · intro k hk; rw [setO_get, if_pos hk]
    · exact hden.elim
  · rename_i hw
    refine go (.tup []) T none hden ⟨d, g, o, c, hx, .inl ⟨?_, ?_⟩⟩ h.post (.inl rfl) (fun _ _ => rfl) (Nat.le_refl _) (fun n hn => by cases hn)
    · have := wanted_congr (hslf (.tup [])); rw [hgx] at this; rw [← this]; exact hw
    · intro k hk; rw [setO_get, if_pos hk]
  · exact hden.elim

/-- both make the next operation that is not light -/
theorem Inv.both (hcall : CallSound G P call) (hP : Fits G P W0) (st : Stat P N ops rnd mask m its) {b : It} (h : Inv P W0 N ops m its call X K φ0 s0 w0 listed a w done (b :: rest) E T φ num) (hb : b.light = false)
    (hp : ∀ e ∈ b.o.after.toList, bindsAny e = true → isL listed e.on) {Q : Exit → Act → World → Prop} {next : Act → World → Prop}
    (hX : ∀ φ' v v' E' s' a' w', X v E' s' → VRel φ' v v' → Rel P W0 N φ' (dropL E' mask) s' a' w' → Post W0 φ0 s0 w0 φ' s' w' → Q (.panic [{ v := v', recovered := false }]) a' w')
    (hnext : ∀ φ' a' w' E' T' num', Inv P W0 N ops m its call X K φ0 s0 w0 (listed.setIfInBounds b.i true) a' w' (b :: done) rest E' T' φ' num' → next a' w') : Go.wpOpIn (FR r) n P ops Q b.i next a w := by
  obtain ⟨xs, hxs, hden⟩ := h.den
  obtain ⟨hs, ys, hys, rfl⟩ := order_cons hxs
  have hbi := h.rest_its (c := b) (by simp)
  have hat := st.at_ b hbi
  have hlt : b.i < listed.size := by rw [h.size]; exact lt_of_at hat
  have hdx := st.dstx hbi
  have hdlt : ∀ k, b.o.dst = some k → k < a.tmps.size := fun k hk => Nat.lt_of_lt_of_le (st.dst b hbi k hk) h.n
  rw [denOps_chk _ (st.calm b hbi), hdx] at hden
  rw [denOne_congr (h.reads st hbi hp (.inr hs.pair))] at hden
  have go : ∀ φ' v v' T' w', denOps call ys (setO E b.o.dst v) X K T' → (T' = T ∨ chkOk (setO E b.o.dst v) T' (chks m done b) = true) → VRel φ' v v' → Post W0 φ T w φ' T' w' → next (a.put b.o.dst v') w' := by
    intro φ' v v' T' w' hd hchk hvr hpost
    have hnum : ∀ c ∈ done, (if c.i = b.i then none else num c.i) = num c.i := fun c hc => if_neg (hs.pair c hc).ne
    refine hnext φ' _ w' (setO E b.o.dst v) T' (fun j => if j = b.i then none else num j) ⟨by rw [← h.its]; simp, List.pairwise_cons.2 ⟨fun c hc => hs.pair c hc, h.pair⟩, ?_, ⟨ys, hys, hd⟩, h.g.mono hpost.ple, by rw [(put_size v').1]; exact h.n, by rw [(put_size v').2, setO_ds]; exact h.d.mono hpost.ple, ?_, ?_, ?_, ?_, ?_, ?_, h.r0, Post.trans h.r0 h.post hpost, h.closed.insert hat hlt hp, by simp [h.size]⟩
    · intro c hc hl
      rcases List.mem_cons.1 hc with rfl | hc
      · rw [hb] at hl; cases hl
      · exact h.self c hc hl
    · intro k hk
      rw [put_tmps hdlt, setO_get]
      by_cases hck : b.o.dst = some k
      · rw [if_pos hck, if_pos hck]; exact hvr
      · rw [if_neg hck, if_neg hck]
        refine (h.slots k fun c' hc' hd' => ?_).mono hpost.ple
        rcases (isL_set hlt c'.i).1 (hk c' (by simp [hc']) hd') with h1 | h1
        · exact h1
        · exact absurd h1 (hs.pair c' hc').ne
    · intro c' hc' hh
      rw [isL_set hlt]
      rcases List.mem_cons.1 hc' with rfl | hc'
      · exact .inr rfl
      · exact .inl (h.heavy c' hc' hh)
    · intro c' hc' hh
      rw [isL_set hlt] at hh
      rcases hh with hh | hh
      · exact h.rest c' (by simp [hc']) hh
      · exact (order_pair hys b (by simp) c' hc').ne hh.symm
    · intro c hc hl
      rw [isL_set hlt] at hl
      rcases List.mem_cons.1 hc with rfl | hc
      · exact absurd (.inr rfl) hl
      have hl : ¬ isL listed c.i := fun h1 => hl (.inl h1)
      simp only [hnum c hc]
      have hpr := hs.pair c hc
      have hnb : ¬ bit m b.i c.i = true := fun hbit => hl (h.bits st hbi hp hbit)
      refine (h.pend c hc hl).keep ?_ ?_ ?_ ?_
      · intro k hk
        rw [setO_get, if_neg]
        intro he
        exact hnb (hpr.war k (hdx.trans he) hk).2
      · intro k hk
        rw [setO_get, if_neg]
        intro he
        exact hpr.waw k hk (hdx.trans he)
      · intro d2 g2 o2 c2 hx2 hkk hw2
        rcases hchk with rfl | hchk
        · exact .inl rfl
        · refine .inr ?_
          have hcl : c.light = true := by
            cases hh : c.light
            · exact absurd (h.heavy c hc hh) hl
            · rfl
          have hmem : (d2, g2, o2) ∈ chks m done b := by
            unfold chks
            rw [if_neg (by rw [hb]; simp)]
            refine List.mem_filterMap.2 ⟨c, hc, ?_⟩
            rw [hx2]
            have hbf : bit m b.i c.i = false := by simpa using hnb
            simp [hcl, hkk, hbf]
          obtain ⟨v4, s4, h4, h5⟩ := chkOk_mem hchk hmem hw2
          have := light_state (.inr hkk) h4
          subst this
          exact ⟨v4, h4, h5⟩
      · intro n blk h1 h2 h3
        have hlt2 := h.numLt c hc n h1
        refine ⟨by rw [hpost.unk n hlt2 h3]; exact h2, ?_⟩
        rcases hpost.stay n hlt2 with h4 | h4
        · rw [h4]; exact h3
        · exact absurd h3 h4.2.1
    · intro c hc c' hc' n h1 h2
      rcases List.mem_cons.1 hc with e1 | hc <;> rcases List.mem_cons.1 hc' with e2 | hc'
      · rw [e1, e2]
      · subst e1; simp at h1
      · subst e2; simp at h2
      · simp only [hnum c hc] at h1
        simp only [hnum c' hc'] at h2
        exact h.numInj c hc c' hc' n h1 h2
    · intro c hc n h1
      rcases List.mem_cons.1 hc with e1 | hc
      · subst e1; simp at h1
      · simp only [hnum c hc] at h1
        exact Nat.lt_of_lt_of_le (h.numLt c hc n h1) hpost.next
  have := one_sound hcall hP (st.comp b hbi) h.post.rel h.masked h.g hden (r := r) (n := n) (Q := Q) (next := next) (fun φ' v v' s' w' hx hv hpo => by
    refine hX φ' v v' E s' a w' hx hv ⟨hpo.rel, ?_, h.g.mono hpo.ple, h.n, by rw [dropL_ds]; exact h.d.mono hpo.ple⟩ (Post.trans h.r0 h.post hpo)
    intro k
    rw [dropL_get]
    by_cases hk : k ∈ mask
    · rw [if_pos hk]; trivial
    · rw [if_neg hk]
      exact (h.slots k fun c hc hd => absurd (st.mask c (h.done_its hc) k hd) hk).mono hpo.ple) (fun φ' v v' s' w' hk hv hpo => by
    obtain ⟨h1, h2⟩ := goOn_iff hk
    exact go φ' v v' s' w' h1 (.inr h2) hv hpo) (fun hk => go φ (.tup []) Go.undef T w hk (.inl rfl) undefRel (Post.refl h.post.rel))
  unfold Go.wpOpIn
  rw [hat]
  rcases this with ⟨h1, h2⟩ | ⟨h1, h2⟩
  · simp only [h1, if_true]; exact h2
  · simp only [h1]; exact ⟨fun _ _ => trivial, h2⟩

/-- nothing light stands first -/
def Stuck (rest : List It) : Prop := ∀ b r, rest = b :: r → b.light = false

theorem Inv.advance (st : Stat P N ops rnd mask m its) : ∀ {rest done : List It} {E : Env} {T : St} {num : Nat → Option Nat}, Inv P W0 N ops m its call X K φ0 s0 w0 listed a w done rest E T φ num →
    ∃ done' rest' E' T' num', Inv P W0 N ops m its call X K φ0 s0 w0 listed a w done' rest' E' T' φ num' ∧ Stuck rest'
  | [], done, E, T, num, h => ⟨done, [], E, T, num, h, fun _ _ he => by cases he⟩
  | b :: r, done, E, T, num, h => by
    cases hb : b.light
    · exact ⟨done, b :: r, E, T, num, h, fun b' r' he => by injection he with h1 h2; subst h1; exact hb⟩
    · obtain ⟨E', T', num', h'⟩ := h.ahead st hb
      exact Inv.advance st h'

/-! ### Every order -/

def unl (ops : Array Oper) (listed : Array Bool) : List Nat := (List.range ops.size).filter fun i => !listed.getD i false

theorem filter_lt {α : Type} {p q : α → Bool} : ∀ {l : List α}, (∀ x ∈ l, q x = true → p x = true) → ∀ x ∈ l, p x = true → q x = false → (l.filter q).length < (l.filter p).length
  | [], _, _, hx, _, _ => by cases hx
  | a :: l, h, x, hx, hp, hq => by
    have hle : ∀ (l : List α), (∀ x ∈ l, q x = true → p x = true) → (l.filter q).length ≤ (l.filter p).length := by
      intro l
      induction l with
      | nil => intro _; simp
      | cons b l ih =>
        intro h
        have := ih fun x hx => h x (by simp [hx])
        by_cases hqb : q b = true
        · simp [hqb, h b (by simp) hqb]; omega
        · by_cases hpb : p b = true
          · simp [hqb, hpb]; omega
          · simp [hqb, hpb]; omega
    rcases List.mem_cons.1 hx with rfl | hx
    · have := hle l fun x hx => h x (by simp [hx])
      simp [hp, hq]; omega
    · have ih := filter_lt (l := l) (fun x hx => h x (by simp [hx])) x hx hp hq
      by_cases hqa : q a = true
      · simp [hqa, h a (by simp) hqa]; omega
      · by_cases hpa : p a = true
        · simp [hqa, hpa]; omega
        · simp [hqa, hpa]; omega

theorem ready_spec {i : Nat} (hs : listed.size = ops.size) : i ∈ Go.Region.ready .any ops listed ↔ ¬ isL listed i ∧ ∃ o, ops[i]? = some o ∧ ∀ e ∈ o.after.toList, bindsAny e = true → isL listed e.on := by
  unfold Go.Region.ready isL
  simp only [List.mem_filter, List.mem_range, Bool.and_eq_true]
  constructor
  · rintro ⟨h1, h2, h3⟩
    have hi : listed.getD i true = listed.getD i false := by simp [Array.getD_eq_getD_getElem?, hs, h1]
    rw [hi] at h2
    refine ⟨by simpa using h2, ops[i], by simp [h1], ?_⟩
    simp only [h1, getElem?_pos, Option.map_some, Option.getD_some, Array.all_eq_true] at h3
    intro e he hb
    obtain ⟨j, hj, rfl⟩ := List.getElem_of_mem he
    have := h3 j (by simpa using hj)
    simp only [Bool.or_eq_true, Bool.not_eq_true'] at this
    rcases this with h4 | h4
    · unfold bindsAny at hb; simp at hb; rw [hb] at h4; cases h4
    · simpa using h4
  · rintro ⟨h2, o, ho, h3⟩
    have h1 := lt_of_at ho
    have hi : listed.getD i true = listed.getD i false := by simp [Array.getD_eq_getD_getElem?, hs, h1]
    refine ⟨h1, by rw [hi]; simpa using h2, ?_⟩
    rw [ho]
    simp only [Option.map_some, Option.getD_some, Array.all_eq_true]
    intro j hj
    by_cases hb : bindsAny o.after[j] = true
    · have := h3 o.after[j] (by simp) hb
      simp [this]
    · unfold bindsAny at hb
      simp at hb
      simp [hb]

theorem any_sound (hcall : CallSound G P call) (hP : Fits G P W0) (st : Stat P N ops rnd mask m its) {Q : Exit → Act → World → Prop}
    (hX : ∀ φ' v v' E' s' a' w', X v E' s' → VRel φ' v v' → Rel P W0 N φ' (dropL E' mask) s' a' w' → Post W0 φ0 s0 w0 φ' s' w' → Q (.panic [{ v := v', recovered := false }]) a' w')
    (hK : ∀ φ' E' s' a' w', K E' s' → Rel P W0 N φ' E' s' a' w' → Post W0 φ0 s0 w0 φ' s' w' → Q .normal a' w') :
    ∀ (fuel : Nat) {listed : Array Bool} {a : Act} {w : World} {done rest : List It} {E : Env} {T : St} {φ : Phi} {num : Nat → Option Nat}, Inv P W0 N ops m its call X K φ0 s0 w0 listed a w done rest E T φ num → Stuck rest →
      (unl ops listed).length ≤ fuel → Go.wpAnyIn (FR r) n P .any ops Q fuel listed a w := by
  intro fuel
  have stop : ∀ {listed : Array Bool} {a : Act} {w : World} {done rest : List It} {E : Env} {T : St} {φ : Phi} {num : Nat → Option Nat}, Inv P W0 N ops m its call X K φ0 s0 w0 listed a w done rest E T φ num →
      Go.Region.ready .any ops listed = [] → Q .normal a w := by
    intro listed a w done rest E T φ num h hr
    have hall : ∀ c ∈ its, isL listed c.i := by
      refine topo_all st.topo ?_
      intro c hc hpr
      by_cases hl : isL listed c.i
      · exact hl
      · have := (ready_spec h.size).2 ⟨hl, c.o, st.at_ c hc, hpr⟩
        rw [hr] at this; cases this
    have hrest : rest = [] := by
      cases rest with
      | nil => rfl
      | cons b r => exact absurd (hall b (h.rest_its (by simp))) (h.rest b (by simp))
    subst hrest
    obtain ⟨xs, hxs, hden⟩ := h.den
    have : xs = [] := by simpa [order] using hxs.symm
    subst this
    exact hK φ E T a w hden ⟨h.post.rel, fun k => h.slots k fun c hc _ => hall c (h.done_its hc), h.g, h.n, h.d⟩ h.post
  induction fuel with
  | zero =>
    intro listed a w done rest E T φ num h _ hu
    have hu : unl ops listed = [] := List.length_eq_zero_iff.1 (by omega)
    have hr : Go.Region.ready .any ops listed = [] := by
      rw [List.eq_nil_iff_forall_not_mem]
      intro i hi
      obtain ⟨h1, o, ho, _⟩ := (ready_spec h.size).1 hi
      have : i ∈ unl ops listed := by
        unfold unl
        simp only [List.mem_filter, List.mem_range]
        exact ⟨lt_of_at ho, by unfold isL at h1; simpa using h1⟩
      rw [hu] at this; cases this
    exact ⟨hr, stop h hr⟩
  | succ fuel ih =>
    intro listed a w done rest E T φ num h hst hu
    refine ⟨stop h, ?_⟩
    intro i hi
    obtain ⟨h1, o, ho, hpr⟩ := (ready_spec h.size).1 hi
    have hlt := lt_of_at ho
    have hu' : (unl ops (listed.setIfInBounds i true)).length ≤ fuel := by
      have : (unl ops (listed.setIfInBounds i true)).length < (unl ops listed).length := by
        unfold unl
        refine filter_lt ?_ i (List.mem_range.2 hlt) ?_ ?_
        · intro j _ hj
          by_cases hl : isL listed j
          · have := (isL_set (by rw [h.size]; exact hlt) j).2 (.inl hl)
            unfold isL at this; rw [this] at hj; cases hj
          · unfold isL at hl; simpa using hl
        · unfold isL at h1; simpa using h1
        · have := (isL_set (by rw [h.size]; exact hlt) i).2 (.inr rfl)
          unfold isL at this; simp [this]
      omega
    obtain ⟨c, hc, rfl⟩ := st.all i hlt
    have hco := st.at_ c hc
    rw [hco] at ho; injection ho with ho; subst ho
    have hmem := hc
    rw [← h.its] at hmem
    rcases List.mem_append.1 hmem with hcd | hcr
    · exact h.late hP st (by simpa using hcd) h1 hpr fun φ' a' w' h' => ih h' hst hu'
    · cases rest with
      | nil => cases hcr
      | cons b r =>
        have hb := hst b r rfl
        obtain ⟨xs, hxs, _⟩ := h.den
        obtain ⟨hs, ys, hys, _⟩ := order_cons hxs
        rcases List.mem_cons.1 hcr with rfl | hcr
        · exact h.both hcall hP st hb hpr hX fun φ' a' w' E' T' num' h' => by
            obtain ⟨d2, r2, E2, T2, num2, h2, h3⟩ := h'.advance st
            exact ih h2 h3 hu'
        · exfalso
          have hbl : ¬ isL listed b.i := h.rest b (by simp)
          cases hcl : c.light
          · exact hbl (h.bits st hc hpr ((order_pair hys b (by simp) c hcr).heavy hb hcl))
          · obtain ⟨e, he, hbe, hno⟩ := hs.lights hb c hcr hcl
            have hle := hpr e he hbe
            have hlt2 : e.on < ops.size := by
              rcases Nat.lt_or_ge e.on listed.size with h4 | h4
              · rw [← h.size]; exact h4
              · unfold isL at hle; simp [Array.getD_eq_getD_getElem?, h4] at hle
            obtain ⟨c2, hc2, hi2⟩ := st.all e.on hlt2
            rw [← h.its] at hc2
            rcases List.mem_append.1 hc2 with h5 | h5
            · exact hno c2 (by simpa using h5) hi2
            · exact h.rest c2 h5 (by rw [hi2]; exact hle)
end

variable {G : Ctx → Prop} {W0 : Ctx} {φ : Phi} {s : St} {w w' : World} {P : Program}
variable {call : Tgt → List Val → (Res → St → Prop) → St → Prop}

theorem drawn_sound (hcall : CallSound G P call) (hP : Fits G P W0) {N : Nat} {ops : Array Oper} {rnd : Bool} (hd : ∀ o ∈ ops.toList, ∀ i, o.dst = some i → i < N) (hcalm : ∀ o ∈ ops.toList, (compOper P ops rnd o).calm = true)
    {xs : List AOper} (hc : compDrawn (ops.toList.map fun o => (o, compOper P ops rnd o)) = some xs) {X : Val → Env → St → Prop} {K : Env → St → Prop} {E : Env} {a : Act} (hrel : Rel P W0 N φ E s a w)
    (hden : denOps call xs E X K s) {Q : Exit → Act → World → Prop} {r : Option Nat} {n : Nat}
    (hX : ∀ φ' v v' E' s' a' w', X v E' s' → VRel φ' v v' → Rel P W0 N φ' (dropL E' (dstsOf (ops.toList.map (compOper P ops rnd)))) s' a' w' → Post W0 φ s w φ' s' w' → Q (.panic [{ v := v', recovered := false }]) a' w')
    (hK : ∀ φ' E' s' a' w', K E' s' → Rel P W0 N φ' E' s' a' w' → Post W0 φ s w φ' s' w' → Q .normal a' w') :
    Go.wpAnyIn (FR r) n P .any ops Q ops.size (Array.replicate ops.size false) a w := by
  obtain ⟨its, hord, hat, hall⟩ := compDrawn_spec hc
  have hmm : (ops.toList.map fun o => (o, compOper P ops rnd o)).map (·.1) = ops.toList := by simp [Function.comp_def]
  have hops : ∀ c ∈ its, ops[c.i]? = some c.o ∧ c.x = compOper P ops rnd c.o := by
    intro c hm
    have h1 := hat c hm
    rw [List.getElem?_map] at h1
    simp only [Option.map_eq_some_iff, Prod.mk.injEq] at h1
    obtain ⟨o, h2, rfl, h3⟩ := h1
    exact ⟨by simpa using h2, h3.symm⟩
  have hmem : ∀ c ∈ its, c.o ∈ ops.toList := by
    intro c hm
    have h1 := (hops c hm).1
    have := lt_of_at h1
    rw [Array.getElem?_eq_getElem this] at h1
    injection h1 with h1
    rw [← h1]; simp
  have st : Stat P N ops rnd (dstsOf (ops.toList.map (compOper P ops rnd))) (masks ((ops.toList.map fun o => (o, compOper P ops rnd o)).map (·.1)) []) its := by
    refine ⟨fun c hm => (hops c hm).1, fun c hm => (hops c hm).2.symm, ?_, ?_, ?_, ?_, ?_, ?_⟩
    · intro c hm; rw [(hops c hm).2]; exact hcalm c.o (hmem c hm)
    · intro c hm k hk
      unfold dstsOf
      refine List.mem_filterMap.2 ⟨c.x, List.mem_map.2 ⟨c.o, hmem c hm, (hops c hm).2.symm⟩, hk⟩
    · intro i hi; exact hall i (by simpa using hi)
    · have := masks_spec ops.toList
      rw [hmm]; exact this
    · intro p b s he e h1 h2
      obtain ⟨a, ha, hi⟩ := order_topo hord p b s he e h1 h2
      rcases ha with ha | ha
      · cases ha
      · exact ⟨a, ha, hi⟩
    · intro c hm d hdst; exact hd c.o (hmem c hm) d hdst
  have nl : ∀ i, ¬ isL (Array.replicate ops.size false) i := by
    intro i; unfold isL
    rw [Array.getD_eq_getD_getElem?]
    by_cases h : i < ops.size <;> simp [h]
  have inv : Inv P W0 N ops (masks ((ops.toList.map fun o => (o, compOper P ops rnd o)).map (·.1)) []) its call X K φ s w (Array.replicate ops.size false) a w [] its E s φ (fun _ => none) := by
    refine ⟨by simp, List.Pairwise.nil, ?_, ⟨xs, hord, hden⟩, hrel.g, hrel.n, hrel.d, fun k _ => hrel.e k, ?_, fun c _ => nl c.i, ?_, (fun c hc => by cases hc), (fun c hc => by cases hc), hrel.r, Post.refl hrel.r, ?_, by simp⟩
    · intro c hc; cases hc
    · intro c hc; cases hc
    · intro c hc; cases hc
    · intro i o hi; exact absurd hi (nl i)
  obtain ⟨d2, r2, E2, T2, num2, h2, h3⟩ := inv.advance st
  refine any_sound hcall hP st hX hK ops.size h2 h3 ?_
  unfold unl
  have := List.length_filter_le (fun i => !(Array.replicate ops.size false).getD i false) (List.range ops.size)
  simpa using this
end Am
