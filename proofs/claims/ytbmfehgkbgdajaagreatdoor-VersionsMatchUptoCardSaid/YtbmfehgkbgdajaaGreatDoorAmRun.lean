/- The abstract machine's run stands for the model's: one operation. -/
import Derived.Test.YtbmfehgkbgdajaaGreatDoorAmExt
import Derived.LoopN
import Derived.Tactics
import Derived.OrdersIn
import Derived.Eval
import Derived.RangeFuncLeaves
import Derived.RecoverIn
set_option linter.all false
namespace Am
open Go (IntKind BinOp UnOp FuncId TypeId Program Value World Addr Obj Operand Oper Op Sem Act Code Exit Calls Ending Fence CallsIn CallsDIn RoundIn)

variable {G : Ctx → Prop} {W0 : Ctx} {φ : Phi} {s : St} {w w' : World} {P : Program}

/-- no bound on anything; the frames walked are a round's of the loop at a block, or a function's -/
def FR (r : Option Nat) : Fence := { Fence.wide with round := r }

def DRel (φ : Phi) : List ADef → List Go.Deferred → Prop
  | [], l => l = []
  | .fn f args :: r, l => ∃ d t a' c', l = d :: t ∧ d.target = .fn (.func f) c' ∧ d.args = a' ∧ VsRel φ args (a' ++ c').toList ∧ DRel φ r t
  | .coll b :: r, l => ∃ d t c, l = d :: t ∧ d.target = .collected c ∧ BRel φ b c ∧ DRel φ r t

theorem DRel.mono {φ φ' : Phi} (h : PLe φ φ') : ∀ {l : List ADef} {l' : List Go.Deferred}, DRel φ l l' → DRel φ' l l'
  | [], _, hr => hr
  | .fn _ _ :: _, _, ⟨d, t, a', c', e, h1, h2, h3, h4⟩ => ⟨d, t, a', c', e, h1, h2, h3.mono h, DRel.mono h h4⟩
  | .coll _ :: _, _, ⟨d, t, c, e, h1, h2, h3⟩ => ⟨d, t, c, e, h1, h2.mono h, DRel.mono h h3⟩

/-- everything that goes along -/
structure Rel (P : Program) (W0 : Ctx) (N : Nat) (φ : Phi) (E : Env) (s : St) (a : Act) (w : World) : Prop where
  r : R W0 φ s w
  e : ERel φ E a.tmps
  g : GRel φ P.globals.size
  n : N ≤ a.tmps.size
  d : DRel φ E.ds a.defers

theorem Rel.post {N : Nat} {E : Env} {a : Act} {φ' : Phi} {s' : St} (h : Rel P W0 N φ E s a w) (hp : Post W0 φ s w φ' s' w') : Rel P W0 N φ' E s' a w' :=
  ⟨hp.rel, h.e.mono hp.ple, h.g.mono hp.ple, h.n, h.d.mono hp.ple⟩

theorem Env.get_set (E : Env) (i j : Nat) (v : Val) : (E.set i v).get j = if j = i then v else E.get j := by
  unfold Env.get Env.set
  simp only []
  rw [PM.get_set]
  by_cases h : j = i <;> simp [h]

theorem ERel.put {E : Env} {t : Array Value} (h : ERel φ E t) {d : Nat} {v : Val} {v' : Value} (hd : d < t.size) (hv : VRel φ v v') : ERel φ (E.set d v) (t.setIfInBounds d v') := by
  intro i
  rw [Env.get_set]
  by_cases hi : i = d
  · subst hi
    rw [if_pos rfl]
    have : (t.setIfInBounds i v').getD i Go.undef = v' := by simp [Array.getD_eq_getD_getElem?, hd]
    rw [this]; exact hv
  · rw [if_neg hi]
    have : (t.setIfInBounds d v').getD i Go.undef = t.getD i Go.undef := by
      simp [Array.getD_eq_getD_getElem?, Array.getElem?_setIfInBounds_ne (Ne.symm hi)]
    rw [this]; exact h i

theorem Rel.put {N : Nat} {E : Env} {a : Act} (h : Rel P W0 N φ E s a w) {d : Option Nat} (hd : ∀ i, d = some i → i < N) {v : Val} {v' : Value} (hv : VRel φ v v') : Rel P W0 N φ (setO E d v) s (a.put d v') w := by
  cases d with
  | none => exact h
  | some d =>
    have hlt := hd d rfl
    refine ⟨h.r, ?_, h.g, ?_, h.d⟩
    · exact h.e.put (Nat.lt_of_lt_of_le hlt h.n) hv
    · show N ≤ (a.tmps.setIfInBounds d v').size
      rw [Array.size_setIfInBounds]; exact h.n

theorem undefRel : VRel φ (.tup []) Go.undef := ⟨#[], rfl, rfl⟩

/-! ### Guards -/

theorem guard_sound {ops : Array Oper} {o : Oper} {g : Option (Nat × Bool)} (hg : guardOf ops o.guard = some g) {E : Env} {t : Array Value} (hE : ERel φ E t) :
    (wanted E g = .yes → Go.Region.wanted o (Go.yielded ops t) = true) ∧ (wanted E g = .no → Go.Region.wanted o (Go.yielded ops t) = false) := by
  unfold guardOf at hg
  split at hg
  · rename_i heq
    injection hg with hg; subst hg
    unfold wanted Go.Region.wanted
    rw [heq]; simp
  · rename_i j b heq
    split at hg
    case h_2 => cases hg
    rename_i oj hj
    split at hg
    case h_2 => cases hg
    rename_i d hd
    injection hg with hg; subst hg
    have hv := hE d
    have hy : Go.yielded ops t j = match t[d]? with | some (.bool b) => some b | _ => none := by
      unfold Go.yielded; rw [hj]
      simp only [Option.bind_some, hd]
      cases t[d]? with
      | none => rfl
      | some v => cases v <;> rfl
    unfold Go.Region.wanted wanted
    rw [heq]
    simp only [hy]
    cases hE2 : E.get d <;> simp only [hE2] at hv ⊢
    case bool c =>
      have hv : t.getD d Go.undef = .bool c := hv
      have ht : t[d]? = some (.bool c) := by
        rw [Array.getD_eq_getD_getElem?] at hv
        cases h3 : t[d]? with
        | none => rw [h3] at hv; simp [Go.undef] at hv
        | some x => rw [h3] at hv; simp at hv; rw [hv]
      simp only [ht]
      by_cases hcb : c == b <;> simp_all
    case tup vs =>
      cases vs with
      | nil =>
        obtain ⟨cs, e1, h2⟩ := hv
        have hcs : cs = #[] := by have := h2; simp [VsRel] at this; exact this
        subst hcs
        have ht : (match t[d]? with | some (.bool b) => some b | _ => none : Option Bool) = none := by
          rw [Array.getD_eq_getD_getElem?] at e1
          cases h3 : t[d]? with
          | none => rfl
          | some x => rw [h3] at e1; simp at e1; subst e1; rfl
        simp [ht]
      | cons => simp
    all_goals simp

/-! ### Calls -/

def EndRel (φ : Phi) : Res → Ending → Prop
  | .ret v, e => ∃ v', e = .returned v' ∧ VRel φ v v'
  | .pan v, e => ∃ v', e = .panicked [{ v := v', recovered := false }] ∧ VRel φ v v'

/-- the mode of a frame that is leaving, by what recover has for its deferred calls -/
def ModeRel (φ : Phi) (p : Val) (u : Go.FrameMode) : Prop :=
  (p = .nilIface ∧ u = .returning) ∨ (p ≠ .nilIface ∧ ∃ v', u = .panicking [{ v := v', recovered := false }] ∧ VRel φ p v')

/-- the program, and what is asked of the world in which the outermost call began -/
def Fits (G : Ctx → Prop) (P : Program) (W0 : Ctx) : Prop := W0.P = P ∧ G W0

/-- what a call is taken to do: the semantics of the abstract machine's calls -/
structure CallSound (G : Ctx → Prop) (P : Program) (call : Tgt → List Val → (Res → St → Prop) → St → Prop) : Prop where
  fn : ∀ (f : FuncId) (args : List Val) (K : Res → St → Prop) (s : St), call (.fn f) args K s →
    ∀ (W0 : Ctx) (φ : Phi) (w : World) (args' : Array Value), Fits G P W0 → R W0 φ s w → GRel φ P.globals.size → VsRel φ args args'.toList →
      hasBody P f = true ∧ Calls P f args' w fun e w' => ∃ r s' φ', K r s' ∧ EndRel φ' r e ∧ Post W0 φ s w φ' s' w'
  dfn : ∀ (f : FuncId) (p : Val) (args : List Val) (K : Res → St → Prop) (s : St), call (.dfn f p) args K s →
    ∀ (W0 : Ctx) (φ : Phi) (w : World) (args' : Array Value) (u : Go.FrameMode), Fits G P W0 → R W0 φ s w → GRel φ P.globals.size → VsRel φ args args'.toList → ModeRel φ p u →
      hasBody P f = true ∧ CallsDIn Fence.wide 0 P f args' u w fun e u' w' => ∃ rec s' φ', (∃ v', e = .returned v') ∧ K (.ret (.bool rec)) s' ∧ Post W0 φ s w φ' s' w' ∧
        Go.settle u' = (if rec = true then .returning else u)
  yld : ∀ (l : Nat) (args : List Val) (K : Res → St → Prop) (s : St), call (.yld l) args K s →
    ∀ (W0 : Ctx) (φ : Phi) (w : World) (args' : Array Value) (c : Nat), Fits G P W0 → R W0 φ s w → GRel φ P.globals.size → VsRel φ args args'.toList → BRel φ l c →
      ∃ fn tmps as body, (Go.Instr.yield c args').run P w = .ok (.round c fn tmps as body) w ∧
        RoundIn Fence.wide 0 P c fn tmps as body w fun e w' => ∃ r s' φ', K r s' ∧ EndRel φ' r e ∧ Post W0 φ s w φ' s' w'

theorem run_callFunc {f : FuncId} (h : hasBody P f = true) (args : Array Value) (w : World) : (Go.callFunc f args).run P w = .ok (.enter f args) w := by
  unfold hasBody at h
  split at h
  · rename_i fn hf
    simp only [Bool.and_eq_true, bne_iff_ne, ne_eq] at h
    have h1 : (fn.name == "runtime.NumGoroutine") = false := by simpa using h.2
    have h2 : fn.body.isNone = false := by
      cases hb : fn.body with
      | none => rw [hb] at h; simp at h
      | some b => rfl
    simp only [Go.callFunc, Go.Sem.run_bind, Go.run_program, Go.Result.andThen_ok, hf, h1, h2, Bool.false_eq_true, if_false]
    rfl
  · cases h

section
variable {call : Tgt → List Val → (Res → St → Prop) → St → Prop}

theorem goOn_iff {chk : Chk} {E : Env} {K : Env → St → Prop} (h : goOn chk E s K) : K E s ∧ chkOk E s chk = true := by
  unfold goOn at h
  split at h
  · exact ⟨h, rfl⟩
  · split at h
    · rename_i hc; exact ⟨h, hc⟩
    · exact h.elim

theorem denOps_cons (x : AOper) (hx : x.calm = true) (r : List AOper) (E : Env) (X : Val → Env → St → Prop) (K : Env → St → Prop) (s : St) :
    denOps call (x :: r) E X K s = denOne call x E (fun v s => X v E s) (fun v s' => goOn x.chk (setO E x.dst v) s' fun E s => denOps call r E X K s) (denOps call r (setO E x.dst (.tup [])) X K s) s := by
  cases x <;> first | rfl | cases hx

/-- what an operation is taken for -/
theorem compOper_cases {ops : Array Oper} {rnd : Bool} {o : Oper} {x : AOper} (hc : compOper P ops rnd o = x) : compOper0 P ops rnd o = some x ∨ x = .op o.dst none .fail [] := by
  unfold compOper at hc
  split at hc
  · rename_i y hy; subst hc; exact .inl hy
  · exact .inr hc.symm

theorem compOper0_dst {ops : Array Oper} {rnd : Bool} {o : Oper} {x : AOper} (hc : compOper0 P ops rnd o = some x) : x.dst = o.dst ∧ guardOf ops o.guard = some x.guard := by
  unfold compOper0 at hc
  split at hc
  case h_1 => cases hc
  rename_i g hg
  split at hc
  · split at hc
    · simp only [Option.map_eq_some_iff] at hc
      obtain ⟨l, _, rfl⟩ := hc; exact ⟨rfl, hg⟩
    · split at hc
      case h_2 => cases hc
      simp only [Option.map_eq_some_iff] at hc
      obtain ⟨l, _, rfl⟩ := hc; exact ⟨rfl, hg⟩
  · split at hc
    case h_2 => cases hc
    injection hc with hc; subst hc; exact ⟨rfl, hg⟩
  · simp only [Option.map_eq_some_iff] at hc
    obtain ⟨l, _, rfl⟩ := hc; exact ⟨rfl, hg⟩
  · split at hc
    · cases hc
    · split at hc
      case h_2 => cases hc
      injection hc with hc; subst hc; exact ⟨rfl, hg⟩
  · simp only [Option.map_eq_some_iff] at hc
    obtain ⟨l, _, rfl⟩ := hc; exact ⟨rfl, hg⟩
  · simp only [Option.map_eq_some_iff] at hc
    obtain ⟨l, _, rfl⟩ := hc; exact ⟨rfl, hg⟩

theorem compOper_dst {ops : Array Oper} {rnd : Bool} {o : Oper} {x : AOper} (hc : compOper P ops rnd o = x) : x.dst = o.dst := by
  rcases compOper_cases hc with h | h
  · exact (compOper0_dst h).1
  · rw [h]; rfl

theorem callsIn_FR {r : Option Nat} {n : Nat} {f : FuncId} {args : Array Value} {Rr : Ending → World → Prop} (h : Calls P f args w Rr) : CallsIn (FR r) n P f args w Rr :=
  (Go.callsIn_wide (n := n)).2 h

theorem wpIn_of {r : Option Nat} {n : Nat} {o : Oper} {a : Act} {next : Act → World → Prop} {Q : Exit → Act → World → Prop} (hnd : ∀ c, o.op ≠ .defer c)
    (h : o.uponIn (FR r) n P a next Q ((Go.execOp a.eval o).run P w)) : o.wpIn (FR r) n P a w next Q := by
  refine ⟨fun _ _ => trivial, ?_⟩
  rw [Go.Oper.semAt_eq _ _ _ hnd]
  exact h

theorem compOp_noDefer {o : Oper} {o' : AOp} (h : compOp P o = some o') : ∀ c, o.op ≠ .defer c := by
  intro c hc
  simp [compOp, hc] at h

/-- an operation that is one of the abstract machine's own -/
theorem op_done {ops : Array Oper} {rnd : Bool} {o : Oper} {d : Option Nat} {g : Option (Nat × Bool)} {o' : AOp} {ck : Chk} (hc : compOper P ops rnd o = .op d g o' ck) {E : Env} {a : Act}
    (hr : R W0 φ s w) (hE : ERel φ E a.tmps) (hG : GRel φ P.globals.size) {v : Val} {s' : St} (he : evOp o' E s = some (v, s')) : guardOf ops o.guard = some g ∧ Done P W0 φ s w ((Go.execOp a.eval o).run P w) v s' := by
  rcases compOper_cases hc with hc | hc
  case inr => injection hc with h1 h2 h3 h4; subst h3; simp [evOp] at he
  refine ⟨(compOper0_dst hc).2, ?_⟩
  unfold compOper0 at hc
  split at hc
  case h_1 => cases hc
  rename_i g' hg
  split at hc
  · rename_i f args argTypes hop
    split at hc
    · simp only [Option.map_eq_some_iff] at hc
      obtain ⟨l, _, hc⟩ := hc; cases hc
    · rename_i hb
      split at hc
      case h_2 => cases hc
      rename_i l hl
      simp only [Option.map_eq_some_iff] at hc
      obtain ⟨o1, ho1, hc⟩ := hc
      injection hc with h1 h2 h3 h4; subst h3
      have hd1 := ext_sound hr hE hG hl ho1 he
      have e0 : (Go.execOp a.eval o).run P w = (Go.callFunc f (args.map a.eval)).run P w := by
        simp only [Go.execOp, hop, Go.resolve, Go.Sem.run_bind, Go.Act.eval, Go.Deferred.ofValue, Go.Sem.run_pure, Go.Result.andThen_ok, Go.invoke]
        have e1 : (#[] ++ args.map a.eval ++ #[] : Array Value) = args.map a.eval := by simp
        show (Go.callFunc f (#[] ++ args.map a.eval ++ #[])).run P w = _
        rw [e1]
      rw [e0]; exact hd1
  · split at hc
    case h_2 => cases hc
    injection hc with hc; cases hc
  · simp only [Option.map_eq_some_iff] at hc
    obtain ⟨l, _, hc⟩ := hc; cases hc
  · split at hc
    · cases hc
    · split at hc
      case h_2 => cases hc
      injection hc with hc; cases hc
  · simp only [Option.map_eq_some_iff] at hc
    obtain ⟨l, _, hc⟩ := hc; cases hc
  · simp only [Option.map_eq_some_iff] at hc
    obtain ⟨o1, ho1, hc⟩ := hc
    injection hc with h1 h2 h3 h4; subst h3
    exact compOp_sound hr hE hG ho1 he

/-- one operation, wherever it stands -/
theorem one_sound (hcall : CallSound G P call) (hP : Fits G P W0) {ops : Array Oper} {rnd : Bool} {o : Oper} {x : AOper} (hc : compOper P ops rnd o = x) {E : Env} {a : Act}
    (hr : R W0 φ s w) (hE : ERel φ E a.tmps) (hG : GRel φ P.globals.size) {X Ky : Val → St → Prop} {Kn : Prop} (hden : denOne call x E X Ky Kn s) {r : Option Nat} {n : Nat} {next : Act → World → Prop} {Q : Exit → Act → World → Prop}
    (hpan : ∀ φ' v v' s' w', X v s' → VRel φ' v v' → Post W0 φ s w φ' s' w' → Q (.panic [{ v := v', recovered := false }]) a w')
    (hyes : ∀ φ' v v' s' w', Ky v s' → VRel φ' v v' → Post W0 φ s w φ' s' w' → next (a.put o.dst v') w') (hno : Kn → next (a.put o.dst Go.undef) w) :
    (Go.Region.wanted o (Go.yielded ops a.tmps) = true ∧ o.wpIn (FR r) n P a w next Q) ∨ (Go.Region.wanted o (Go.yielded ops a.tmps) = false ∧ next (a.put o.dst Go.undef) w) := by
  rcases compOper_cases hc with hc | hc
  case inr => subst hc; exact hden.elim
  unfold compOper0 at hc
  split at hc
  case h_1 => cases hc
  rename_i g hg
  have hgs := guard_sound hg hE
  have fin : ∀ {v : Val} {s' : St}, (∀ c, o.op ≠ .defer c) → Ky v s' → Done P W0 φ s w ((Go.execOp a.eval o).run P w) v s' → o.wpIn (FR r) n P a w next Q := by
    intro v s' hnd hK hdone
    obtain ⟨φ', v', w', hr', hv, hp⟩ := hdone
    have hn := hyes φ' _ v' s' w' hK hv hp
    refine wpIn_of hnd ?_
    rcases hr' with hr' | ⟨hr', rfl⟩
    · rw [hr']; exact hn
    · rw [hr']; exact hn
  have ends : ∀ {e : Ending} {w' : World}, (∃ rs s' φ', upon X Ky rs s' ∧ EndRel φ' rs e ∧ Post W0 φ s w φ' s' w') → (match e with
      | .returned v => next (a.put o.dst v) w'
      | .panicked chain => Q (.panic chain) a w'
      | .outgrown => Go.LetsOut Q) := by
    rintro e w' ⟨rs, s', φ', hu, he, hp⟩
    cases rs with
    | ret v => obtain ⟨v', rfl, hv⟩ := he; exact hyes φ' v v' s' w' hu hv hp
    | pan v => obtain ⟨v', rfl, hv⟩ := he; exact hpan φ' v v' s' w' hu hv hp
  have callCase : ∀ (f : FuncId) (args : List Val) (args' : Array Value), VsRel φ args args'.toList → (∀ c, o.op ≠ .defer c) → (hasBody P f = true → (Go.execOp a.eval o).run P w = .ok (.enter f args') w) →
      call (.fn f) args (upon X Ky) s → o.wpIn (FR r) n P a w next Q := by
    intro f args args' hargs hnd hrun hcl
    obtain ⟨hb, hcalls⟩ := hcall.fn f args _ s hcl W0 φ w args' hP hr hG hargs
    refine wpIn_of hnd ?_
    rw [hrun hb]
    refine ⟨fun h => (by cases h), callsIn_FR (Calls.mono hcalls ?_)⟩
    intro e w' he
    have := ends he
    cases e <;> exact this
  split at hc
  · -- a call of a named function
    rename_i f args argTypes hop
    have hnd : ∀ c, o.op ≠ .defer c := by rw [hop]; intro c hc; cases hc
    split at hc
    · rename_i hb
      simp only [Option.map_eq_some_iff] at hc
      obtain ⟨l, hl, rfl⟩ := hc
      simp only [denOne] at hden
      split at hden
      · rename_i hw
        refine .inl ⟨hgs.1 hw, callCase f _ (args.map a.eval) ?_ hnd ?_ hden⟩
        · have := opds_sound hE hG hl; simpa using this
        · intro _
          simp only [Go.execOp, hop, Go.resolve, Go.Sem.run_bind, Go.Act.eval, Go.Deferred.ofValue, Go.Sem.run_pure, Go.Result.andThen_ok, Go.invoke]
          have e1 : (#[] ++ args.map a.eval ++ #[] : Array Value) = args.map a.eval := by simp
          show (Go.callFunc f (#[] ++ args.map a.eval ++ #[])).run P w = _
          rw [e1]
          exact run_callFunc hb _ _
      · rename_i hw; exact .inr ⟨hgs.2 hw, hno hden⟩
      · exact hden.elim
    · split at hc
      case h_2 => cases hc
      rename_i l hl
      simp only [Option.map_eq_some_iff] at hc
      obtain ⟨o', ho', rfl⟩ := hc
      simp only [denOne] at hden
      split at hden
      · rename_i hw
        split at hden
        · rename_i v s' he
          refine .inl ⟨hgs.1 hw, fin hnd hden ?_⟩
          have hd1 := ext_sound hr hE hG hl ho' he
          have e0 : (Go.execOp a.eval o).run P w = (Go.callFunc f (args.map a.eval)).run P w := by
            simp only [Go.execOp, hop, Go.resolve, Go.Sem.run_bind, Go.Act.eval, Go.Deferred.ofValue, Go.Sem.run_pure, Go.Result.andThen_ok, Go.invoke]
            have e1 : (#[] ++ args.map a.eval ++ #[] : Array Value) = args.map a.eval := by simp
            show (Go.callFunc f (#[] ++ args.map a.eval ++ #[])).run P w = _
            rw [e1]
          rw [e0]; exact hd1
        · exact hden.elim
      · rename_i hw; exact .inr ⟨hgs.2 hw, hno hden⟩
      · exact hden.elim
  · -- a call of a function value
    rename_i fv args argTypes hnf hop
    have hnd : ∀ c, o.op ≠ .defer c := by rw [hop]; intro c hc; cases hc
    split at hc
    case h_2 => cases hc
    rename_i x' l hx hl
    injection hc with hc; subst hc
    simp only [denOne] at hden
    split at hden
    · rename_i hw
      split at hden
      · rename_i f p q hfe
        have hv := opd_sound hE hG hx
        rw [hfe] at hv
        obtain ⟨p', q', e1, hp, hq⟩ := hv
        refine .inl ⟨hgs.1 hw, callCase f _ (p' ++ args.map a.eval ++ q') ?_ hnd ?_ hden⟩
        · have := opds_sound hE hG hl
          simp only [Array.toList_append, Array.toList_map]
          exact (hp.append this).append hq
        · intro hb
          simp only [Go.execOp, hop, Go.resolve, Go.Sem.run_bind, e1, Go.Deferred.ofValue, Go.Sem.run_pure, Go.Result.andThen_ok, Go.invoke]
          exact run_callFunc hb _ _
      · rename_i b hfe
        have hv := opd_sound hE hG hx
        rw [hfe] at hv
        obtain ⟨c, e1, hb⟩ := hv
        refine .inl ⟨hgs.1 hw, wpIn_of hnd ?_⟩
        have hargs : VsRel φ (evs E l) (args.map a.eval).toList := by have := opds_sound hE hG hl; simpa using this
        obtain ⟨fn, tmps, as, body, h1, h2⟩ := hcall.yld b _ _ s hden W0 φ w (args.map a.eval) c hP hr hG hargs hb
        have hrun : (Go.execOp a.eval o).run P w = .ok (.round c fn tmps as body) w := by
          simp only [Go.execOp, hop, Go.resolve, Go.Sem.run_bind, e1, Go.Deferred.ofValue, Go.Sem.run_pure, Go.Result.andThen_ok, Go.invoke]
          have e2 : (#[] ++ args.map a.eval : Array Value) = args.map a.eval := by simp
          rw [e2]; exact h1
        rw [hrun]
        have h3 := h2.mono (R' := fun e w'' => match e with
          | .returned v => next (a.put o.dst v) w''
          | .panicked chain => Q (.panic chain) a w''
          | .outgrown => Go.LetsOut Q) (fun e w' he => by have := ends he; cases e <;> exact this)
        refine ⟨fun h => (by cases h), ⟨trivial, fun c cs _ => ?_⟩⟩
        obtain ⟨e, w', h4, h5⟩ := h3.2 c cs (Go.room_wide _)
        refine ⟨e, w', ?_, h5⟩
        cases e <;> exact h4
      · exact hden.elim
    · rename_i hw; exact .inr ⟨hgs.2 hw, hno hden⟩
    · exact hden.elim
  · -- a panic
    rename_i xo hop
    have hnd : ∀ c, o.op ≠ .defer c := by rw [hop]; intro c hc; cases hc
    simp only [Option.map_eq_some_iff] at hc
    obtain ⟨x', hx, rfl⟩ := hc
    simp only [denOne] at hden
    split at hden
    · rename_i hw
      split at hden
      · rename_i t v hxe
        have hv := opd_sound hE hG hx
        rw [hxe] at hv
        have hv0 := hv
        obtain ⟨v', e1, _⟩ := hv
        rw [e1] at hv0
        refine .inl ⟨hgs.1 hw, wpIn_of hnd ?_⟩
        have hrun : (Go.execOp a.eval o).run P w = .halt (.panic (.iface t v')) w := by
          simp only [Go.execOp, hop, e1]
          rfl
        rw [hrun]
        exact hpan φ _ _ s w hden hv0 (Post.refl hr)
      · exact hden.elim
    · rename_i hw; exact .inr ⟨hgs.2 hw, hno hden⟩
    · exact hden.elim
  · -- deferred calls are not made so
    split at hc
    · cases hc
    · split at hc
      case h_2 => cases hc
      injection hc with hc; subst hc
      exact hden.elim
  · simp only [Option.map_eq_some_iff] at hc
    obtain ⟨x', hx, rfl⟩ := hc
    exact hden.elim
  · simp only [Option.map_eq_some_iff] at hc
    obtain ⟨o', ho', rfl⟩ := hc
    have hnd := compOp_noDefer ho'
    simp only [denOne] at hden
    split at hden
    · rename_i hw
      split at hden
      · rename_i v s' he
        exact .inl ⟨hgs.1 hw, fin hnd hden (compOp_sound hr hE hG ho' he)⟩
      · exact hden.elim
    · rename_i hw; exact .inr ⟨hgs.2 hw, hno hden⟩
    · exact hden.elim
end
end Am
