/- The abstract machine's run stands for the model's: code, functions, calls. -/
import Derived.Test.YtbmfehgkbgdajaaGreatDoorAmDrawn
import Derived.LoopNIn
import Derived.RangeFuncRecord
import Derived.TacticsIn
set_option linter.all false
namespace Am
open Go (IntKind BinOp UnOp FuncId TypeId Program Value World Addr Obj Operand Oper Op Sem Act Code Exit Calls Ending)

variable {G : Ctx → Prop} {W0 : Ctx} {φ : Phi} {s : St} {w w' : World} {P : Program}
variable {call : Tgt → List Val → (Res → St → Prop) → St → Prop}

theorem compOper0_dfr {ops : Array Oper} {rnd : Bool} {o : Oper} {d : Option Nat} {g : Option (Nat × Bool)} {f : AOpd} {args : List AOpd} (hc : compOper0 P ops rnd o = some (.dfr d g f args)) :
    rnd = false ∧ d = o.dst ∧ guardOf ops o.guard = some g ∧ ∃ xo ao ts, o.op = .defer { callee := .value xo, args := ao, argTypes := ts } ∧ opdOf P xo = some f ∧ listM (opdOf P) ao.toList = some args := by
  unfold compOper0 at hc
  split at hc
  case h_1 => cases hc
  rename_i g' hg
  split at hc
  · split at hc
    · simp only [Option.map_eq_some_iff] at hc
      obtain ⟨l, _, he⟩ := hc; cases he
    · split at hc
      case h_2 => cases hc
      simp only [Option.map_eq_some_iff] at hc
      obtain ⟨l, _, he⟩ := hc; cases he
  · split at hc
    case h_2 => cases hc
    injection hc with hc; cases hc
  · simp only [Option.map_eq_some_iff] at hc
    obtain ⟨l, _, he⟩ := hc; cases he
  · rename_i xo ao ts hop
    split at hc
    · cases hc
    · rename_i hr
      split at hc
      case h_2 => cases hc
      rename_i x' l hx hl
      injection hc with hc
      injection hc with h1 h2 h3 h4
      subst h1; subst h2; subst h3; subst h4
      exact ⟨by simpa using hr, rfl, hg, xo, ao, ts, hop, hx, hl⟩
  · simp only [Option.map_eq_some_iff] at hc
    obtain ⟨l, _, he⟩ := hc; cases he
  · simp only [Option.map_eq_some_iff] at hc
    obtain ⟨l, _, he⟩ := hc; cases he

theorem compOper0_nextMap {ops : Array Oper} {rnd : Bool} {o : Oper} {d : Option Nat} {g : Option (Nat × Bool)} {it : AOpd} (hc : compOper0 P ops rnd o = some (.nextMap d g it)) :
    d = o.dst ∧ guardOf ops o.guard = some g ∧ ∃ xo, o.op = .next xo false ∧ opdOf P xo = some it := by
  unfold compOper0 at hc
  split at hc
  case h_1 => cases hc
  rename_i g' hg
  split at hc
  · split at hc
    · simp only [Option.map_eq_some_iff] at hc
      obtain ⟨l, _, he⟩ := hc; cases he
    · split at hc
      case h_2 => cases hc
      simp only [Option.map_eq_some_iff] at hc
      obtain ⟨l, _, he⟩ := hc; cases he
  · split at hc
    case h_2 => cases hc
    injection hc with hc; cases hc
  · simp only [Option.map_eq_some_iff] at hc
    obtain ⟨l, _, he⟩ := hc; cases he
  · split at hc
    · cases hc
    · split at hc
      case h_2 => cases hc
      injection hc with hc; cases hc
  · rename_i xo hop
    simp only [Option.map_eq_some_iff] at hc
    obtain ⟨x', hx, hc⟩ := hc
    injection hc with h1 h2 h3
    subst h1; subst h2; subst h3
    exact ⟨rfl, hg, xo, hop, hx⟩
  · simp only [Option.map_eq_some_iff] at hc
    obtain ⟨l, _, he⟩ := hc; cases he

theorem plain_sound (hcall : CallSound G P call) (hP : Fits G P W0) {N : Nat} {ops : Array Oper} {rnd : Bool} {X : Val → Env → St → Prop} {K : Env → St → Prop} {Q : Exit → Act → World → Prop} {r : Option Nat} {n : Nat} (hrnd : rnd = false → r = none) {φ0 : Phi} {s0 : St} {w0 : World} (hr0 : R W0 φ0 s0 w0)
    (hX : ∀ φ' v v' E' s' a' w', X v E' s' → VRel φ' v v' → Rel P W0 N φ' E' s' a' w' → Post W0 φ0 s0 w0 φ' s' w' → Q (.panic [{ v := v', recovered := false }]) a' w')
    (hK : ∀ φ' E' s' a' w', K E' s' → Rel P W0 N φ' E' s' a' w' → Post W0 φ0 s0 w0 φ' s' w' → Q .normal a' w') :
    ∀ (l : List Oper), (∀ o ∈ l, ∀ i, o.dst = some i → i < N) → ∀ (φ : Phi) (E : Env) (s : St) (a : Act) (w : World), Rel P W0 N φ E s a w → Post W0 φ0 s0 w0 φ s w →
      denOps call (l.map (compOper P ops rnd)) E X K s → Go.wpListIn (FR r) n P ops Q l a w
  | [], _, φ, E, s, a, w, hrel, hp, hden => hK φ E s a w hden hrel hp
  | o :: l, hd, φ, E, s, a, w, hrel, hp, hden => by
    have ih := plain_sound (ops := ops) (n := n) hcall hP hrnd hr0 hX hK l (fun o ho => hd o (by simp [ho]))
    have hdo := hd o (by simp)
    have hdst := compOper_dst (P := P) (ops := ops) (rnd := rnd) (o := o) rfl
    rw [List.map_cons] at hden
    unfold Go.wpListIn
    by_cases hcalm : (compOper P ops rnd o).calm = true
    · rw [denOps_cons _ hcalm, hdst] at hden
      have := one_sound hcall hP (rfl : compOper P ops rnd o = _) hrel.r hrel.e hrel.g hden (r := r) (n := n) (next := Go.wpListIn (FR r) n P ops Q l) (Q := Q)
        (fun φ' v v' s' w' hx hv hpo => hX φ' v v' E s' a w' hx hv (hrel.post hpo) (Post.trans hr0 hp hpo))
        (fun φ' v v' s' w' hk hv hpo => ih φ' _ s' _ w' ((hrel.post hpo).put hdo hv) (Post.trans hr0 hp hpo) (goOn_iff hk).1)
        (fun hk => ih φ _ s _ w (hrel.put hdo undefRel) hp hk)
      rcases this with ⟨h1, h2⟩ | ⟨h1, h2⟩
      · rw [if_pos h1]; exact h2
      · rw [if_neg (by rw [h1]; decide)]; exact ⟨fun _ _ => trivial, h2⟩
    · cases hx : compOper P ops rnd o with
      | op d g o' c => rw [hx] at hcalm; exact absurd rfl hcalm
      | call d g f l c => rw [hx] at hcalm; exact absurd rfl hcalm
      | callv d g f l c => rw [hx] at hcalm; exact absurd rfl hcalm
      | pan d g x => rw [hx] at hcalm; exact absurd rfl hcalm
      | dfr d g f args =>
        rw [hx] at hden
        rcases compOper_cases hx with hc | hc
        case inr => cases hc
        obtain ⟨hr1, rfl, hg, xo, ao, ts, hop, hxo, hl⟩ := compOper0_dfr hc
        obtain rfl : r = none := hrnd hr1
        have hgs := guard_sound hg hrel.e
        simp only [denOps] at hden
        split at hden
        · rename_i hw
          split at hden
          case h_2 => exact hden.elim
          rename_i f first cap hfe
          have hv := opd_sound hrel.e hrel.g hxo
          rw [hfe] at hv
          obtain ⟨p', q', e1, hp', hq'⟩ := hv
          rw [if_pos (hgs.1 hw)]
          refine ⟨fun _ _ => trivial, ?_⟩
          have hargs : VsRel φ (evs E args) (ao.map a.eval).toList := by have := opds_sound hrel.e hrel.g hl; simpa using this
          have hrun : (o.semAt (FR none).round a.eval).run P w = .ok (.defer { target := .fn (.func f) q', args := p' ++ ao.map a.eval }) w := by
            show (Go.execOp a.eval o).run P w = _
            simp only [Go.execOp, hop, Go.resolve, Go.Sem.run_bind, e1, Go.Deferred.ofValue, Go.Sem.run_pure, Go.Result.andThen_ok]
          rw [hrun]
          have hput := hrel.put (d := o.dst) hdo undefRel
          refine ih φ _ s _ w ⟨hrel.r, ?_, hrel.g, ?_, ?_⟩ hp hden
          · have e3 : (({ a with defers := { target := Go.Target.fn (.func f) q', args := p' ++ ao.map a.eval } :: a.defers } : Act).put o.dst Go.undef).tmps = (a.put o.dst Go.undef).tmps := by cases o.dst <;> rfl
            rw [e3]; exact hput.e
          · have e3 : (({ a with defers := { target := Go.Target.fn (.func f) q', args := p' ++ ao.map a.eval } :: a.defers } : Act).put o.dst Go.undef).tmps = (a.put o.dst Go.undef).tmps := by cases o.dst <;> rfl
            rw [e3]; exact hput.n
          · have e3 : (({ a with defers := { target := Go.Target.fn (.func f) q', args := p' ++ ao.map a.eval } :: a.defers } : Act).put o.dst Go.undef).defers = { target := Go.Target.fn (.func f) q', args := p' ++ ao.map a.eval } :: a.defers := by cases o.dst <;> rfl
            rw [e3]
            refine ⟨_, _, _, _, rfl, rfl, rfl, ?_, hrel.d⟩
            simp only [Array.toList_append]
            exact (hp'.append hargs).append hq'
        · rename_i hw
          rw [if_neg (by rw [hgs.2 hw]; decide)]
          exact ⟨fun _ _ => trivial, ih φ _ s _ w (hrel.put hdo undefRel) hp hden⟩
        · exact hden.elim
      | nextMap d g it =>
        rw [hx] at hden
        rcases compOper_cases hx with hc | hc
        case inr => cases hc
        obtain ⟨rfl, hg, xo, hop, hxo⟩ := compOper0_nextMap hc
        have hgs := guard_sound hg hrel.e
        have hnd : ∀ c, o.op ≠ .defer c := by rw [hop]; intro c hc; cases hc
        simp only [denOps] at hden
        split at hden
        · rename_i hw
          obtain ⟨x, x', s1, w1, h1, h2, h3, h4⟩ := next_sound (P := P) hrel.r (opd_sound hrel.e hrel.g hxo) hden o.type
          rw [if_pos (hgs.1 hw)]
          refine wpIn_of hnd ?_
          have hrun : (Go.execOp a.eval o).run P w = .ok (.value x') w1 := by
            simp only [Go.execOp, hop, Go.Sem.run_bind, h1, Go.Result.andThen_ok, Go.Sem.run_pure]
          rw [hrun]
          exact ih φ _ s1 _ w1 ((hrel.post h4).put hdo h2) (Post.trans hr0 hp h4) h3
        · rename_i hw
          rw [if_neg (by rw [hgs.2 hw]; decide)]
          exact ⟨fun _ _ => trivial, ih φ _ s _ w (hrel.put hdo undefRel) hp hden⟩
        · exact hden.elim

theorem region_sound (hcall : CallSound G P call) (hP : Fits G P W0) (hmix : P.follows .mixedOrders = true) {N : Nat} {id : Nat} {ops : Array Oper} {rnd draw : Bool} {iters : Nat} {Qa : Ex → Env → St → Prop} {E : Env} {a : Act} (hrel : Rel P W0 N φ E s a w)
    (hden : den call iters (compRegion P N ops rnd draw) E Qa s) {Q : Exit → Act → World → Prop} {r : Option Nat} {n : Nat} (hrnd : rnd = false → r = none)
    (hX : ∀ φ' v v' E' s' a' w', Qa (.panic v) E' s' → VRel φ' v v' → Rel P W0 N φ' E' s' a' w' → Post W0 φ s w φ' s' w' → Q (.panic [{ v := v', recovered := false }]) a' w')
    (hK : ∀ φ' E' s' a' w', Qa .normal E' s' → Rel P W0 N φ' E' s' a' w' → Post W0 φ s w φ' s' w' → Q .normal a' w') : (Code.region id ops draw).wpIn (FR r) n P Q a w := by
  unfold compRegion at hden
  simp only [] at hden
  split at hden
  case isFalse => exact hden.elim
  rename_i hdst
  have hd : ∀ o ∈ ops.toList, ∀ i, o.dst = some i → i < N := by
    intro o ho i hi
    have hpa := List.all_eq_true.1 hdst _ (List.mem_map.2 ⟨o, ho, rfl⟩)
    rw [compOper_dst rfl, hi] at hpa
    simpa using hpa
  split at hden
  · rename_i hdr
    subst hdr
    split at hden
    case isFalse => exact hden.elim
    rename_i hcalm
    split at hden
    case h_2 => exact hden.elim
    rename_i xs hxs
    simp only [den] at hden
    have hsame := hrel.r.same (w' := { w with drawn := w.drawn + 1 }) rfl rfl rfl
    refine Go.wpIn_region_any hmix (drawn_sound hcall hP hd ?_ hxs (hrel.post hsame) hden ?_ ?_)
    · intro o ho
      exact List.all_eq_true.1 hcalm _ (List.mem_map.2 ⟨o, ho, rfl⟩)
    · intro φ' v v' E' s' a' w' h1 h2 h3 h4; exact hX φ' v v' _ s' a' w' h1 h2 h3 (Post.trans hrel.r hsame h4)
    · intro φ' E' s' a' w' h1 h2 h3; exact hK φ' E' s' a' w' h1 h2 (Post.trans hrel.r hsame h3)
  · rename_i hdr
    have hdr : draw = false := by simpa using hdr
    subst hdr
    simp only [den] at hden
    exact Go.wpIn_region_list (plain_sound hcall hP hrnd hrel.r (fun φ' v v' E' s' a' w' h1 h2 h3 h4 => hX φ' v v' E' s' a' w' h1 h2 h3 h4) hK ops.toList hd φ E s a w hrel (Post.refl hrel.r) hden)

/-- behind recover, in the same region -/
theorem opsS_sound {N : Nat} {ops : Array Oper} {rnd : Bool} {cs : List Go.Frame} {X : Val → Env → St → Prop} {K : Env → St → Prop} {Q : Exit → Act → List Go.Frame → World → Prop} {φ0 : Phi} {s0 : St} {w0 : World} (hr0 : R W0 φ0 s0 w0)
    (hK : ∀ φ' E' s' a' w', K E' s' → Rel P W0 N φ' E' s' a' w' → Post W0 φ0 s0 w0 φ' s' w' → Q .normal a' cs w') :
    ∀ (l : List Oper) (k : Nat), (∀ i o, l[i]? = some o → ops[k + i]? = some o) → (∀ o ∈ l, ∀ i, o.dst = some i → i < N) → (∀ o ∈ l, (compOper P ops rnd o).still = true) →
      ∀ (φ : Phi) (E : Env) (s : St) (a : Act) (w : World), Rel P W0 N φ E s a w → Post W0 φ0 s0 w0 φ s w → denOps call (l.map (compOper P ops rnd)) E X K s →
        Go.wpOpsSIn Go.Fence.wide 0 P ops Q (List.range' k l.length) a cs w
  | [], k, _, _, _, φ, E, s, a, w, hrel, hp, hden => hK φ E s a w hden hrel hp
  | o :: l, k, hops, hd, hst, φ, E, s, a, w, hrel, hp, hden => by
    have ho : ops[k]? = some o := by simpa using hops 0 o rfl
    have ih := opsS_sound (X := X) (rnd := rnd) (ops := ops) hr0 hK l (k + 1) (fun i o' h => by
      have := hops (i + 1) o' (by simpa using h)
      rwa [show k + (i + 1) = k + 1 + i by omega] at this) (fun o ho => hd o (by simp [ho])) (fun o ho => hst o (by simp [ho]))
    have hdo := hd o (by simp)
    have hstill := hst o (by simp)
    have hdst := compOper_dst (P := P) (ops := ops) (rnd := rnd) (o := o) rfl
    rw [List.length_cons, List.range'_succ]
    simp only [Go.wpOpsSIn, ho]
    refine ⟨fun _ _ => trivial, ?_⟩
    rw [List.map_cons] at hden
    cases hx : compOper P ops rnd o with
    | op d g o' c =>
      rw [hx] at hden hdst
      obtain rfl : d = o.dst := hdst
      rw [denOps_cons _ rfl] at hden
      simp only [denOne] at hden
      split at hden
      · rename_i hw
        split at hden
        · rename_i v s' he
          obtain ⟨hg, φ', v', w', hr', hv, hpo⟩ := op_done hx hrel.r hrel.e hrel.g he
          rw [if_pos ((guard_sound hg hrel.e).1 hw)]
          have := ih φ' _ s' (a.put o.dst v') w' ((hrel.post hpo).put hdo hv) (Post.trans hr0 hp hpo) (goOn_iff hden).1
          rcases hr' with hr' | ⟨hr', rfl⟩
          · rw [hr']; exact this
          · rw [hr']; exact this
        · exact hden.elim
      · rename_i hw
        have hg : guardOf ops o.guard = some g := by
          rcases compOper_cases hx with h1 | h1
          · exact (compOper0_dst h1).2
          · injection h1 with _ h2; subst h2; simp [wanted] at hw
        rw [if_neg (by rw [(guard_sound hg hrel.e).2 hw]; decide)]
        exact ih φ _ s _ w (hrel.put hdo undefRel) hp hden
      · exact hden.elim
    | _ => rw [hx] at hstill; cases hstill

theorem splitRec_some {c rest : Code} {d : Nat} {ops : Array Oper} (h : splitRec c = some (some d, ops, rest)) :
    ∃ id o args ats, c = .seq (.region id ops false) rest ∧ ops[0]? = some o ∧ o.op = .call { callee := .builtin .recover, args := args, argTypes := ats } ∧ o.guard = none ∧ o.dst = some d := by
  unfold splitRec at h
  split at h
  case h_2 => cases h
  split at h
  case h_2 => cases h
  rename_i o ho
  split at h
  case h_2 => cases h
  rename_i args ats hop hgu
  simp only [Option.some.injEq, Prod.mk.injEq] at h
  obtain ⟨h1, rfl, rfl⟩ := h
  exact ⟨_, o, _, _, rfl, ho, hop, hgu, h1⟩

/-- how the ways out stand to each other -/
def ExRel (φ : Phi) : Ex → Exit → Prop
  | .normal, e => e = .normal
  | .exit i, e => e = .exit i
  | .ret, e => e = .ret
  | .panic v, e => ∃ v', e = .panic [{ v := v', recovered := false }] ∧ VRel φ v v'

def PostQ (P : Program) (W0 : Ctx) (N : Nat) (φ : Phi) (s : St) (w : World) (Q : Ex → Env → St → Prop) : Exit → Act → World → Prop :=
  fun e a' w' => ∃ x E' s' φ', ExRel φ' x e ∧ Q x E' s' ∧ Rel P W0 N φ' E' s' a' w' ∧ Post W0 φ s w φ' s' w'

theorem R.atOf (h : R W0 φ s w) {b : Nat} {x : Blk} (hx : s.heap.get b = some x) {φ0 : Phi} (hle : PLe φ0 φ) {c sz : Nat} (h0 : φ0 b = .at c sz) : φ b = .at c sz := by
  rcases hle b with h1 | h1 | h1
  · rw [h0] at h1; cases h1
  · rw [h1]; exact h0
  · rw [h.gone b h1] at hx; cases hx

theorem range_sound (hcall : CallSound G P call) (hP : Fits G P W0) {N : Nat} {n : Nat} {g : Operand} {ps : Array Go.Tmp} {as body : Code} {g' : AOpd} (hg : opdOf P g = some g') (hps : ∀ p ∈ ps.toList, p < N) {Qa : Ex → Env → St → Prop} {E : Env} {a : Act} (hrel : Rel P W0 N φ E s a w)
    {iters : Nat} (hden : den call iters (.rangeFunc g' ps.toList (compCode P N true as) (compCode P N true body)) E Qa s) : (Code.rangeFunc g ps as body).wpIn (FR none) n P (PostQ P W0 N φ s w Qa) a w := by
  simp only [den] at hden
  split at hden
  case h_2 => exact hden.elim
  rename_i f first cap hge
  have hv := opd_sound hrel.e hrel.g hg
  rw [hge] at hv
  obtain ⟨p', q', e1, hp, hq⟩ := hv
  refine Go.wpIn_rangeFunc fun fn _ => ?_
  let rec_ : Go.Loop := { state := .ready, pending := none, fn, tmps := a.tmps, params := ps, assign := as, body, defers := w.heap.size }
  have h1 := hrel.r.alloc (.dfr false) (.deferred (some [])) 0 (w' := w.alloc (.deferred (some []))) rfl rfl rfl (by
    show (w.heap.push _)[w.heap.size]? = _
    simp)
  have hsz : (w.alloc (.deferred (some []))).heap.size = w.heap.size + 1 := by show (w.heap.push _).size = _; simp
  have hnx : (s.alloc (.dfr false)).next = s.next + 1 := rfl
  have hφ1 : (φ.ext s.next (.at w.heap.size 0)) s.next = .at w.heap.size 0 := Phi.ext_same _ _ _
  have hple1 := h1.ple
  have hple2 := h1.rel.ple_ext (.at (w.alloc (.deferred (some []))).heap.size 0)
  have h2 := h1.rel.alloc (.loop .ready none E.m ps.toList (compCode P N true as) (compCode P N true body) s.next) (.loop rec_) 0 (w' := (w.alloc (.deferred (some []))).alloc (.loop rec_)) rfl rfl rfl (by
    refine ⟨rec_, ?_, rfl, rfl, rfl, ?_, fun i => ((hrel.e i).mono hple1).mono hple2, N, hrel.n, hps, ?_, ?_⟩
    · exact Go.World.alloc_heap_new _ _
    · refine BRel.mono hple2 ?_
      unfold BRel; rw [hφ1]
    · rw [hP.1]
    · rw [hP.1])
  have hp12 := Post.trans hrel.r h1 h2
  have hyl : VRel ((φ.ext s.next (.at w.heap.size 0)).ext (s.next + 1) (.at (w.heap.size + 1) 0)) (.yld (s.next + 1)) (Value.func (Go.Fn.yield (w.heap.size + 1)) #[] #[]) :=
    ⟨_, rfl, by unfold BRel; rw [Phi.ext_same]⟩
  rw [hnx, hsz] at h2 hp12 hple2
  have hargs : VsRel ((φ.ext s.next (.at w.heap.size 0)).ext (s.next + 1) (.at (w.heap.size + 1) 0)) (first ++ [.yld (s.next + 1)] ++ cap) (p' ++ #[Value.func (Go.Fn.yield (w.heap.size + 1)) #[] #[]] ++ q').toList := by
    simp only [Array.toList_append]
    exact ((hp.mono hp12.ple).append (VsRel.cons hyl VsRel.nil)).append (hq.mono hp12.ple)
  obtain ⟨hb, hcalls⟩ := hcall.fn f _ _ _ hden W0 _ _ (p' ++ #[Value.func (Go.Fn.yield (w.heap.size + 1)) #[] #[]] ++ q') hP h2.rel (hrel.g.mono hp12.ple) hargs
  refine ⟨w.heap.size + 1, [{ target := .collected w.heap.size, args := #[] }], _, { target := .fn (.func f) q', args := p' ++ #[Value.func (Go.Fn.yield (w.heap.size + 1)) #[] #[]] }, (w.alloc (.deferred (some []))).alloc (.loop rec_), f, _, _,
    Go.run_enterLoop_outer fn a.tmps ps as body, ?_, fun _ _ => trivial, ?_, fun h => (by cases h), callsIn_FR (Calls.mono hcalls ?_)⟩
  · have em : Array.map a.eval #[Operand.const (Value.func (Go.Fn.yield (w.heap.size + 1)) #[] #[])] = #[Value.func (Go.Fn.yield (w.heap.size + 1)) #[] #[]] := by simp [Go.Act.eval]
    simp only [Go.resolve, Go.Sem.run_bind, e1, Go.Deferred.ofValue, Go.Sem.run_pure, Go.Result.andThen_ok, em]
    rfl
  · simp only [Go.invoke]
    exact run_callFunc hb _ _
  · rintro e w3 ⟨rs, s3, φ3, hk, he, hpo⟩
    have hp3 := Post.trans hrel.r hp12 hpo
    have hds : DRel φ3 (.coll s.next :: E.ds) ([{ target := .collected w.heap.size, args := #[] }] ++ a.defers) := by
      refine ⟨_, _, _, rfl, rfl, ?_, hrel.d.mono hp3.ple⟩
      refine BRel.mono hpo.ple (BRel.mono hple2 ?_)
      unfold BRel; rw [hφ1]
    cases rs with
    | pan v =>
      obtain ⟨v', rfl, hv⟩ := he
      exact ⟨.panic v, _, s3, φ3, ⟨v', rfl, hv⟩, hk, ⟨hp3.rel, hrel.e.mono hp3.ple, hrel.g.mono hp3.ple, hrel.n, hds⟩, hp3⟩
    | ret v =>
      obtain ⟨v', rfl, hv⟩ := he
      simp only [] at hk
      unfold afterLoop at hk
      split at hk
      case h_2 => exact hk.elim
      rename_i st pend E0 ps0 as0 body0 d0 hget
      split at hk
      · exact hk.elim
      rename_i hnb
      have hnb1 : st ≠ .busy := fun h => hnb (.inl h)
      have hfl : s3.floor ≤ s.next + 1 := Nat.le_of_not_lt fun h => hnb (.inr h)
      have hat := hp3.rel.atOf hget hpo.ple (Phi.ext_same _ _ _)
      obtain ⟨r0, hw3, hl1, hl2, hl3, hl4, hl5, hl6⟩ := hp3.rel.blk _ _ _ _ hat hget
      have hst : r0.state ≠ .busy := by rw [hl1]; cases st <;> first | (intro h; cases h; done) | exact absurd rfl hnb1
      have hlt := hp3.rel.lt _ _ _ hat
      have hput := hp3.rel.put (x' := .loop .exhausted pend E0 ps0 as0 body0 d0) (o := .loop { r0 with state := .exhausted }) (w' := w3.putObj (w.heap.size + 1) (.loop { r0 with state := .exhausted })) hat hget rfl hfl rfl rfl rfl rfl
        ⟨_, Go.World.putObj_heap_same hlt, rfl, hl2, hl3, hl4, hl5, hl6⟩
      have hp4 := Post.trans hrel.r hp3 hput
      have hrel4 : Rel P W0 N φ3 { E with ds := .coll s.next :: E.ds } (s3.put (s.next + 1) (.loop .exhausted pend E0 ps0 as0 body0 d0)) { a with defers := [{ target := .collected w.heap.size, args := #[] }] ++ a.defers } (w3.putObj (w.heap.size + 1) (.loop { r0 with state := .exhausted })) :=
        ⟨hput.rel, hrel.e.mono hp3.ple, hrel.g.mono hp3.ple, hrel.n, hds⟩
      obtain ⟨w4, hw4⟩ : ∃ w4, w3.putObj (w.heap.size + 1) (.loop { r0 with state := .exhausted }) = w4 := ⟨_, rfl⟩
      rw [hw4] at hrel4 hp4
      refine ⟨r0.pending, w4, by rw [← hw4]; exact Go.run_endLoop hw3 hst, ?_⟩
      rw [hl2]
      cases pend with
      | none => exact ⟨.normal, _, _, φ3, rfl, hk, hrel4, hp4⟩
      | some j =>
        cases j with
        | ret => exact Go.wpIn_ret ⟨.ret, _, _, φ3, rfl, hk, hrel4, hp4⟩
        | exit i => exact Go.wpIn_exit ⟨.exit i, _, _, φ3, rfl, hk, hrel4, hp4⟩

theorem den_sound (hcall : CallSound G P call) (hP : Fits G P W0) (hmix : P.follows .mixedOrders = true) {N : Nat} {rnd : Bool} {r : Option Nat} {n : Nat} (hrnd : rnd = false → r = none) (iters : Nat) :
    ∀ (c : Code) (Q : Ex → Env → St → Prop) (φ : Phi) (E : Env) (s : St) (a : Act) (w : World),
    Rel P W0 N φ E s a w → den call iters (compCode P N rnd c) E Q s → c.wpIn (FR r) n P (PostQ P W0 N φ s w Q) a w := by
  intro c
  induction c with
  | skip =>
    intro Q φ E s a w hrel hden
    exact Go.wpIn_skip ⟨.normal, E, s, φ, rfl, hden, hrel, Post.refl hrel.r⟩
  | region id ops draw =>
    intro Q φ E s a w hrel hden
    exact region_sound hcall hP hmix hrel hden hrnd (fun φ' v v' E' s' a' w' h1 h2 h3 h4 => ⟨.panic v, E', s', φ', ⟨v', rfl, h2⟩, h1, h3, h4⟩) fun φ' E' s' a' w' h1 h2 h3 => ⟨.normal, E', s', φ', rfl, h1, h2, h3⟩
  | seq x y ihx ihy =>
    intro Q φ E s a w hrel hden
    simp only [compCode, den] at hden
    refine Go.wpIn_seq (Go.wpIn_mono (ihx _ φ E s a w hrel hden) ?_)
    rintro e a1 w1 ⟨ex, E', s', φ', he, hq, hrel', hp⟩
    cases ex with
    | normal =>
      obtain rfl : e = _ := he
      refine Go.wpIn_mono (ihy Q φ' E' s' a1 w1 hrel' hq) ?_
      rintro e a2 w2 ⟨ex, E2, s2, φ2, he2, hq2, hrel2, hp2⟩
      exact ⟨ex, E2, s2, φ2, he2, hq2, hrel2, Post.trans hrel.r hp hp2⟩
    | exit i => obtain rfl : e = _ := he; exact ⟨.exit i, E', s', φ', rfl, hq, hrel', hp⟩
    | ret => obtain rfl : e = _ := he; exact ⟨.ret, E', s', φ', rfl, hq, hrel', hp⟩
    | panic v => obtain ⟨v', rfl, hv⟩ := he; exact ⟨.panic v, E', s', φ', ⟨v', rfl, hv⟩, hq, hrel', hp⟩
  | cond x y z ihy ihz =>
    intro Q φ E s a w hrel hden
    simp only [compCode] at hden
    split at hden
    case h_2 => exact hden.elim
    rename_i x' hx
    simp only [den] at hden
    have hv := opd_sound hrel.e hrel.g hx
    split at hden
    · rename_i heq
      rw [heq] at hv
      exact Go.wpIn_cond_true hv (ihy Q φ E s a w hrel hden)
    · rename_i heq
      rw [heq] at hv
      exact Go.wpIn_cond_false hv (ihz Q φ E s a w hrel hden)
    · exact hden.elim
  | block id x ih =>
    intro Q φ E s a w hrel hden
    simp only [compCode, den] at hden
    refine Go.wpIn_block (Go.wpIn_mono (ih _ φ E s a w hrel hden) ?_)
    rintro e a1 w1 ⟨ex, E', s', φ', he, hq, hrel', hp⟩
    cases ex with
    | normal => obtain rfl : e = _ := he; exact ⟨.normal, E', s', φ', rfl, hq, hrel', hp⟩
    | exit i =>
      obtain rfl : e = _ := he
      show (if i = id then _ else _)
      have hq : (if i = id then Q .normal E' s' else Q (.exit i) E' s') := hq
      by_cases hi : i = id
      · rw [if_pos hi] at hq ⊢
        exact ⟨.normal, E', s', φ', rfl, hq, hrel', hp⟩
      · rw [if_neg hi] at hq ⊢
        exact ⟨.exit i, E', s', φ', rfl, hq, hrel', hp⟩
    | ret => obtain rfl : e = _ := he; exact ⟨.ret, E', s', φ', rfl, hq, hrel', hp⟩
    | panic v => obtain ⟨v', rfl, hv⟩ := he; exact ⟨.panic v, E', s', φ', ⟨v', rfl, hv⟩, hq, hrel', hp⟩
  | loop x ih =>
    intro Q φ E s a w hrel hden
    simp only [compCode, den] at hden
    refine Go.wpIn_loop_rounds iters ?_
    have key : ∀ (m : Nat) (φ1 : Phi) (E1 : Env) (s1 : St) (a1 : Act) (w1 : World), Rel P W0 N φ1 E1 s1 a1 w1 → Post W0 φ s w φ1 s1 w1 → loopN (fun E Q s => den call iters (compCode P N rnd x) E Q s) m E1 Q s1 → Code.roundsIn (FR r) n P x (PostQ P W0 N φ s w Q) m a1 w1 := by
      intro m
      induction m with
      | zero => intro φ1 E1 s1 a1 w1 _ _ h; exact h.elim
      | succ m ihn =>
        intro φ1 E1 s1 a1 w1 hrel1 hp1 h
        simp only [loopN] at h
        show x.wpIn _ _ P _ a1 w1
        refine Go.wpIn_mono (ih _ φ1 E1 s1 a1 w1 hrel1 h) ?_
        rintro e a2 w2 ⟨ex, E2, s2, φ2, he, hq, hrel2, hp2⟩
        have hp3 := Post.trans hrel.r hp1 hp2
        cases ex with
        | normal => obtain rfl : e = _ := he; exact ihn φ2 E2 s2 a2 w2 hrel2 hp3 hq
        | exit i => obtain rfl : e = _ := he; exact ⟨.exit i, E2, s2, φ2, rfl, hq, hrel2, hp3⟩
        | ret => obtain rfl : e = _ := he; exact ⟨.ret, E2, s2, φ2, rfl, hq, hrel2, hp3⟩
        | panic v => obtain ⟨v', rfl, hv⟩ := he; exact ⟨.panic v, E2, s2, φ2, ⟨v', rfl, hv⟩, hq, hrel2, hp3⟩
    exact key iters φ E s a w hrel (Post.refl hrel.r) hden
  | exit id =>
    intro Q φ E s a w hrel hden
    exact Go.wpIn_exit ⟨.exit id, E, s, φ, rfl, hden, hrel, Post.refl hrel.r⟩
  | ret =>
    intro Q φ E s a w hrel hden
    exact Go.wpIn_ret ⟨.ret, E, s, φ, rfl, hden, hrel, Post.refl hrel.r⟩
  | label l =>
    intro Q φ E s a w hrel hden
    exact Go.wpIn_label ⟨.normal, E, s, φ, rfl, hden, hrel, Post.refl hrel.r⟩
  | refuse why =>
    intro Q φ E s a w hrel hden
    exact (show False from hden).elim
  | rangeFunc f ps as b ih1 ih2 =>
    intro Q φ E s a w hrel hden
    simp only [compCode] at hden
    split at hden
    · exact hden.elim
    rename_i hcond
    simp only [not_or, Bool.not_eq_true, Bool.not_eq_false] at hcond
    obtain ⟨hr1, hr2⟩ := hcond
    split at hden
    case h_2 => exact hden.elim
    rename_i g' hg
    obtain rfl : r = none := hrnd hr1
    exact range_sound hcall hP hg (fun p hp => by simpa using List.all_eq_true.1 hr2 p hp) hrel hden
  | scope b =>
    intro Q φ E s a w hrel hden
    exact (show False from hden).elim
  | goto l =>
    intro Q φ E s a w hrel hden
    exact (show False from hden).elim

/-! ### Functions -/

theorem envOf_get : ∀ (args : List Val) (i j : Nat), ((envOf args i).get j).getD .undef = if i ≤ j then (args[j - i]?).getD .undef else .undef
  | [], i, j => by simp [envOf, PM.get]
  | v :: r, i, j => by
    rw [envOf, PM.get_set]
    by_cases h : j = i
    · subst h; simp
    · rw [if_neg h, envOf_get r (i + 1) j]
      by_cases h2 : i + 1 ≤ j
      · rw [if_pos h2, if_pos (by omega), show j - i = (j - (i + 1)) + 1 by omega]; simp
      · rw [if_neg h2, if_neg (by omega)]

theorem envOf_rel {args : List Val} {args' : Array Value} (h : VsRel φ args args'.toList) (n : Nat) (ds : List ADef) : ERel φ { m := envOf args 0, ds := ds } (args' ++ Array.replicate n Go.undef) := by
  intro i
  show VRel φ (((envOf args 0).get i).getD .undef) _
  rw [envOf_get]
  simp only [Nat.zero_le, if_true, Nat.sub_zero]
  cases hi : args[i]? with
  | none => simp [VRel]
  | some v =>
    obtain ⟨v', h1, h2⟩ := h.get hi
    have hlt : i < args'.size := by
      rcases Nat.lt_or_ge i args'.size with h3 | h3
      · exact h3
      · rw [List.getElem?_eq_none (by simpa using h3)] at h1; cases h1
    have : (args' ++ Array.replicate n Go.undef).getD i Go.undef = v' := by
      rw [Array.getD_eq_getD_getElem?, Array.getElem?_append_left hlt]
      have : args'[i]? = some v' := by simpa using h1
      rw [this]; rfl
    rw [this]; exact h2

def resOne (t : Array Value) : Go.ResultVar → Sem Value
  | .tmp u => pure (t.getD u Go.undef)
  | .cell a ty => do Go.loadVar ty (← Go.asAddr (t.getD a Go.undef))

theorem run_results {E : Env} {t : Array Value} (h : R W0 φ s w) (hE : ERel φ E t) : ∀ (l : List Go.ResultVar) (l' : List ARes), compRes P l = some l' → ∀ vs, resVals E s l' = some vs →
    ∃ vs', (l.mapM (resOne t)).run P w = .ok vs' w ∧ VsRel φ vs vs'
  | [], l', hl, vs, hv => by
    simp [compRes] at hl; subst hl
    simp [resVals] at hv; subst hv
    exact ⟨[], rfl, rfl⟩
  | .tmp u :: l, l', hl, vs, hv => by
    simp only [compRes, Option.map_eq_some_iff] at hl
    obtain ⟨m, hm, rfl⟩ := hl
    simp only [resVals, Option.map_eq_some_iff] at hv
    obtain ⟨vs1, h1, rfl⟩ := hv
    obtain ⟨vs', h2, h3⟩ := run_results h hE l m hm vs1 h1
    refine ⟨t.getD u Go.undef :: vs', ?_, ⟨_, _, rfl, hE u, h3⟩⟩
    rw [List.mapM_cons]
    simp only [resOne, Go.Sem.run_bind, Go.Sem.run_pure, Go.Result.andThen_ok, h2]
  | .cell a ty :: l, l', hl, vs, hv => by
    simp only [compRes] at hl
    split at hl
    case h_2 => cases hl
    rename_i n hn
    simp only [Option.map_eq_some_iff] at hl
    obtain ⟨m, hm, rfl⟩ := hl
    simp only [resVals] at hv
    split at hv
    case h_2 => cases hv
    rename_i ad had
    split at hv
    case h_2 => cases hv
    rename_i v hvv
    simp only [Option.map_eq_some_iff] at hv
    obtain ⟨vs1, h1, rfl⟩ := hv
    obtain ⟨vs', h2, h3⟩ := run_results h hE l m hm vs1 h1
    have hva := hE a
    rw [had] at hva
    obtain ⟨a', e1, hA⟩ := hva
    obtain ⟨v', h4, h5⟩ := run_loadVar (P := P) h hn hA hvv
    refine ⟨v' :: vs', ?_, ⟨_, _, rfl, h5, h3⟩⟩
    rw [List.mapM_cons]
    have ea : (Go.asAddr (t.getD a Go.undef)).run P w = .ok a' w := by rw [e1]; rfl
    simp only [resOne, Go.Sem.run_bind, ea, Go.Sem.run_pure, Go.Result.andThen_ok, h4, h2]

theorem results_sound {fn : Go.Func} {E : Env} {t : Array Value} (h : R W0 φ s w) (hE : ERel φ E t) {l' : List ARes} (hl : compRes P fn.results.toList = some l') {vs : List Val} (hv : resVals E s l' = some vs) :
    ∃ v', (Go.results fn t).run P w = .ok v' w ∧ VRel φ (resVal vs) v' := by
  obtain ⟨vs', h1, h2⟩ := run_results (P := P) h hE fn.results.toList l' hl vs hv
  have hlen := h2.length
  have e1 : (fn.results.mapM (resOne t)).run P w = .ok vs'.toArray w := by
    generalize fn.results = rs at h1
    obtain ⟨rl⟩ := rs
    rw [List.mapM_toArray]
    simp only [Go.Sem.run_map]
    have h1' : (rl.mapM (resOne t)).run P w = .ok vs' w := h1
    rw [h1']
    rfl
  refine ⟨if h : vs'.toArray.size = 1 then vs'.toArray[0] else .tuple vs'.toArray, ?_, ?_⟩
  · have e0 : Go.results fn t = (fn.results.mapM (resOne t) >>= fun vs => pure (if h : vs.size = 1 then vs[0] else .tuple vs)) := rfl
    rw [e0, Go.Sem.run_bind, e1]
    rfl
  · match vs, vs', h2, hlen with
    | [], vs', h2, hlen => rw [show vs' = [] from h2]; exact ⟨#[], rfl, rfl⟩
    | [v], vs', h2, hlen =>
      obtain ⟨x, rfl, hx⟩ := rel1 h2
      exact hx
    | v :: u :: r, vs', h2, hlen =>
      have : ¬ vs'.toArray.size = 1 := by simp at hlen ⊢; omega
      rw [dif_neg this]
      exact ⟨_, rfl, by simpa using h2⟩

/-- a function that is told by a contract -/
def NatOk (G : Ctx → Prop) (P : Program) (f : FuncId) (g : List Val → St → Option (Val × St)) : Prop :=
  hasBody P f = true ∧ ∀ args s v s', g args s = some (v, s') → ∀ (W0 : Ctx) (φ : Phi) (w : World) (args' : Array Value), Fits G P W0 → R W0 φ s w → GRel φ P.globals.size → VsRel φ args args'.toList →
    Calls P f args' w fun e w' => ∃ v' φ', e = .returned v' ∧ VRel φ' v v' ∧ Post W0 φ s w φ' s' w'

/-- a table of functions that are the program's -/
def TableOk (G : Ctx → Prop) (P : Program) (fns : FuncId → Option AFunc) : Prop := ∀ f fn, fns f = some fn →
  (∃ g, P.funcs[f]? = some g ∧ compFunc P g = some fn ∧ hasBody P f = true) ∨ ∃ g, fn = natFunc g ∧ NatOk G P f g

theorem compFunc_nat {g : Go.Func} {fn : AFunc} (h : compFunc P g = some fn) : fn.nat = none := by
  unfold compFunc at h
  split at h
  · split at h
    · split at h
      · injection h with h; subst h; rfl
      · cases h
    · cases h
    · injection h with h; subst h; rfl
  · cases h

/-- the mode of a frame that leaves, by the panic that passes -/
def PanRel (φ : Phi) : Option Val → Go.FrameMode → Prop
  | none, u => u = .returning
  | some v, u => ∃ t x v', v = .iface t x ∧ u = .panicking [{ v := v', recovered := false }] ∧ VRel φ v v'

theorem PanRel.mono {φ φ' : Phi} (h : PLe φ φ') {p : Option Val} {u : Go.FrameMode} (hp : PanRel φ p u) : PanRel φ' p u := by
  cases p with
  | none => exact hp
  | some v => obtain ⟨t, x, v', h1, h2, h3⟩ := hp; exact ⟨t, x, v', h1, h2, h3.mono h⟩

theorem leave_sound (hcall : CallSound G P call) (hP : Fits G P W0) {g : Go.Func} {res : List ARes} (hres : compRes P g.results.toList = some res) {K : Res → St → Prop} {E : Env} {tmps : Array Value} {φ0 : Phi} {s0 : St} {w0 : World} (h0 : R W0 φ0 s0 w0) :
    ∀ (ds : List ADef) (ds' : List Go.Deferred) (p : Option Val) (u : Go.FrameMode) (φ : Phi) (s : St) (w : World), Post W0 φ0 s0 w0 φ s w → ERel φ E tmps → GRel φ P.globals.size → DRel φ ds ds' → PanRel φ p u → leave call res E K ds p s →
      Go.LeavesInM Go.Fence.wide 0 P g tmps (fun e w' => ∃ r s' φ', K r s' ∧ EndRel φ' r e ∧ Post W0 φ0 s0 w0 φ' s' w') ds' u w
  | [], ds', p, u, φ, s, w, hpost, hE, hG, hd, hp, h => by
    obtain rfl : ds' = [] := hd
    cases p with
    | none =>
      obtain rfl : u = _ := hp
      simp only [leave] at h
      split at h
      · rename_i vs hvs
        obtain ⟨v', h1, h2⟩ := results_sound (P := P) hpost.rel hE hres hvs
        exact ⟨v', h1, .ret _, s, φ, h, ⟨v', rfl, h2⟩, hpost⟩
      · exact h.elim
    | some v =>
      obtain ⟨t, x, v', rfl, rfl, hv⟩ := hp
      exact ⟨.pan _, s, φ, h, ⟨v', rfl, hv⟩, hpost⟩
  | .coll b :: ds, ds', p, u, φ, s, w, hpost, hE, hG, hd, hp, h => by
    obtain ⟨d, t, c, rfl, h1, h2, h3⟩ := hd
    have hu : u ≠ .run := by
      cases p with
      | none => obtain rfl : u = _ := hp; simp
      | some v => obtain ⟨_, _, _, _, rfl, _⟩ := hp; simp
    simp only [leave] at h
    split at h
    case h_2 => exact h.elim
    rename_i hb
    split at h
    case isFalse => exact h.elim
    rename_i hfl
    have hr := hpost.rel
    obtain ⟨c', sz, hat⟩ := hr.at_of_get hb (by intro hu; unfold BRel at h2; rw [hu] at h2; exact h2)
    obtain rfl : c = c' := by unfold BRel at h2; rw [hat] at h2; exact h2
    have hw : w.heap[c]? = some (.deferred (some [])) := hr.blk b c sz _ hat hb
    have hlt := hr.lt b c sz hat
    have hput := hr.put (x' := .dfr true) (o := .deferred none) (w' := { w with heap := w.heap.setIfInBounds c (.deferred none) }) hat hb rfl hfl rfl rfl rfl rfl (by
      show (w.heap.setIfInBounds c _)[c]? = _
      rw [Array.getElem?_setIfInBounds_self_of_lt hlt]; rfl)
    exact ⟨hu, .inl ⟨c, _, h1, Go.run_takeDeferred hw, leave_sound hcall hP hres h0 ds t p u φ _ _ (Post.trans h0 hpost hput) hE hG h3 hp h⟩⟩
  | .fn f args :: ds, ds', p, u, φ, s, w, hpost, hE, hG, hd, hp, h => by
    obtain ⟨d, t, a', c', rfl, h1, h2, h3, h4⟩ := hd
    have hu : u ≠ .run := by
      cases p with
      | none => obtain rfl : u = _ := hp; simp
      | some v => obtain ⟨_, _, _, _, rfl, _⟩ := hp; simp
    simp only [leave] at h
    have hm : ModeRel φ (p.getD .nilIface) u := by
      cases p with
      | none => exact .inl ⟨rfl, hp⟩
      | some v => obtain ⟨t, x, v', rfl, rfl, hv⟩ := hp; exact .inr ⟨by simp, v', rfl, hv⟩
    obtain ⟨hb, hcalls⟩ := hcall.dfn f _ args _ s h W0 φ w (a' ++ c') u hP hpost.rel hG h3 hm
    refine ⟨hu, .inr ⟨fun h => (by cases h), .func f, c', f, a' ++ c', h1, ?_, fun _ _ => trivial, ?_⟩⟩
    · rw [h1, h2]
      simp only [Go.invoke]
      exact run_callFunc hb _ _
    · refine Go.CallsDIn.mono hcalls ?_
      rintro e u' w' ⟨rec, s', φ', ⟨v', rfl⟩, hk, hpo, hset⟩
      simp only [] at hk ⊢
      rw [hset]
      cases rec with
      | true => exact leave_sound hcall hP hres h0 ds t none .returning φ' s' w' (Post.trans h0 hpost hpo) (hE.mono hpo.ple) (hG.mono hpo.ple) (h4.mono hpo.ple) rfl hk
      | false => exact leave_sound hcall hP hres h0 ds t p u φ' s' w' (Post.trans h0 hpost hpo) (hE.mono hpo.ple) (hG.mono hpo.ple) (h4.mono hpo.ple) (hp.mono hpo.ple) hk

theorem setL_rel : ∀ (ps : List Nat) (args : List Val) (args' : List Value) (E : PM Val) (tmps : Array Value), VsRel φ args args' → (∀ p ∈ ps, p < tmps.size) → args.length = ps.length →
    (∀ i, VRel φ ((PM.get E i).getD .undef) (tmps.getD i Go.undef)) →
    (∀ i, VRel φ ((PM.get (setL E ps args) i).getD .undef) (((ps.zip args').foldl (fun t (p, v) => t.setIfInBounds p v) tmps).getD i Go.undef)) ∧ ((ps.zip args').foldl (fun t (p, v) => t.setIfInBounds p v) tmps).size = tmps.size
  | [], args, args', E, tmps, _, _, _, h => by simpa [setL] using h
  | p :: ps, [], args', E, tmps, _, _, hl, _ => by simp at hl
  | p :: ps, v :: args, _, E, tmps, ⟨v', t, rfl, hv, ht⟩, hp, hl, h => by
    have hlt := hp p (by simp)
    have := setL_rel ps args t (E.set p v) (tmps.setIfInBounds p v') ht (fun q hq => by simpa using hp q (by simp [hq])) (by simpa using hl) ?_
    · simpa [setL] using this
    intro i
    rw [PM.get_set]
    by_cases hi : i = p
    · subst hi
      have e : (tmps.setIfInBounds i v').getD i Go.undef = v' := by simp [Array.getD_eq_getD_getElem?, hlt]
      rw [if_pos rfl, e]; exact hv
    · have e : (tmps.setIfInBounds p v').getD i Go.undef = tmps.getD i Go.undef := by simp [Array.getD_eq_getD_getElem?, Array.getElem?_setIfInBounds_ne (Ne.symm hi)]
      rw [if_neg hi, e]; exact h i

theorem callN_sound (hmix : P.follows .mixedOrders = true) {fns : FuncId → Option AFunc} (hT : TableOk G P fns) : ∀ n, CallSound G P (callN (ρ := Prop) fns n) := by
  intro n
  induction n with
  | zero => exact ⟨fun _ _ _ _ h => h.elim, fun _ _ _ _ _ h => h.elim, fun _ _ _ _ h => h.elim⟩
  | succ n ih =>
    refine ⟨?_, ?_, ?_⟩
    · intro f args K s h W0 φ w args' hP hr hg hargs
      simp only [callN] at h
      split at h
      case h_2 => exact h.elim
      rename_i fn hf
      rcases hT f fn hf with ⟨g, hg1, hg2, hg3⟩ | ⟨g, rfl, hg1, hg2⟩
      case inr =>
        simp only [natFunc] at h
        split at h
        · rename_i v s' hv
          refine ⟨hg1, Calls.mono (hg2 _ _ _ _ hv W0 φ w args' hP hr hg hargs) ?_⟩
          rintro e w' ⟨v', φ', rfl, h1, h2⟩
          exact ⟨.ret v, s', φ', h, ⟨v', rfl, h1⟩, h2⟩
        · exact h.elim
      rw [compFunc_nat hg2] at h
      simp only [] at h
      split at h
      case isFalse => exact h.elim
      rename_i hnp
      obtain ⟨hnp, hrcv⟩ := hnp
      refine ⟨hg3, ?_⟩
      unfold compFunc at hg2
      split at hg2
      case h_2 => cases hg2
      rename_i c rs hbody hrs
      split at hg2
      · split at hg2
        · injection hg2 with hg2; subst hg2; cases hrcv
        · cases hg2
      · cases hg2
      injection hg2 with hg2; subst hg2
      have hrel : Rel P W0 g.ntmps φ { m := envOf args 0 } s { tmps := args' ++ Array.replicate (g.ntmps - args'.size) Go.undef, defers := [] } w :=
        ⟨hr, envOf_rel hargs _ _, hg, by simp; omega, rfl⟩
      have hwp := den_sound ih hP hmix (n := 0) (r := none) (fun _ => rfl) n c _ φ _ s _ w hrel h
      refine Go.callsIn_wide.1 (Go.callsIn_of_wp_marks (F := Go.Fence.wide) (n := 0) hg1 hbody trivial (Go.wpIn_mono hwp ?_))
      rintro e a1 w1 ⟨ex, E', s', φ', he, hq, hrel', hp⟩
      cases ex with
      | normal => obtain rfl : e = _ := he; exact leave_sound ih hP hrs hr _ _ none .returning φ' s' w1 hp hrel'.e hrel'.g hrel'.d rfl hq
      | exit i => exact hq.elim
      | ret => obtain rfl : e = _ := he; exact leave_sound ih hP hrs hr _ _ none .returning φ' s' w1 hp hrel'.e hrel'.g hrel'.d rfl hq
      | panic v =>
        obtain ⟨v', rfl, hv⟩ := he
        cases v with
        | iface t x => exact leave_sound ih hP hrs hr _ _ (some (.iface t x)) _ φ' s' w1 hp hrel'.e hrel'.g hrel'.d ⟨t, x, v', rfl, rfl, hv⟩ hq
        | _ => exact hq.elim
    · intro f p args K s h W0 φ w args' u hP hr hg hargs hm
      simp only [callN] at h
      split at h
      case h_2 => exact h.elim
      rename_i fn hf
      split at h
      case isFalse => exact h.elim
      rename_i hnp
      rcases hT f fn hf with ⟨g, hg1, hg2, hg3⟩ | ⟨g, rfl, hg1, hg2⟩
      case inr => exact h.elim
      refine ⟨hg3, ?_⟩
      have hset : Go.settle u = u := by
        rcases hm with ⟨_, rfl⟩ | ⟨_, v', rfl, _⟩ <;> rfl
      unfold compFunc at hg2
      split at hg2
      case h_2 => cases hg2
      rename_i c rs hbody hrs
      split at hg2
      · -- a function that begins with recover
        rename_i d ops rest hsplit
        split at hg2
        case isFalse => cases hg2
        rename_i hdn
        injection hg2 with hg2; subst hg2
        obtain ⟨id, o, oargs, ats, rfl, ho, hop, hgu, hod⟩ := splitRec_some hsplit
        simp only [den, recOps] at h
        split at h
        case isFalse => exact h.elim
        rename_i hall
        simp only [den] at h
        have hrel0 : Rel P W0 g.ntmps φ { m := envOf args 0 } s { tmps := args' ++ Array.replicate (g.ntmps - args'.size) Go.undef, defers := [] } w :=
          ⟨hr, envOf_rel hargs _ _, hg, by simp; omega, rfl⟩
        refine Go.callsDIn_of_wpSIn hg1 hbody trivial fun c₀ cs hu => ?_
        refine Go.wpSIn_seq (Go.wpSIn_region ?_)
        obtain ⟨l⟩ := ops
        cases l with
        | nil => simp at ho
        | cons o' l =>
        obtain rfl : o' = o := by simpa using ho
        have hrange : List.range (List.toArray (o' :: l)).size = 0 :: List.range' 1 l.length := by
          rw [List.size_toArray, List.length_cons, List.range_eq_range', List.range'_succ]
        rw [hrange]
        simp only [Go.wpOpsSIn, ho]
        refine ⟨fun _ _ => trivial, ?_⟩
        have hwant : Go.Region.wanted o' (Go.yielded (List.toArray (o' :: l)) (args' ++ Array.replicate (g.ntmps - args'.size) Go.undef)) = true := by
          unfold Go.Region.wanted; rw [hgu]
        have hrun : ∀ ρ, (Go.execOp ρ o').run P w = .ok .recover w := by intro ρ; simp only [Go.execOp, hop]; rfl
        rw [if_pos hwant, hrun]
        simp only [hod]
        have key : ∀ (u' : Go.FrameMode) (v' : Value), VRel φ p v' → Go.settle u' = .returning →
            Go.wpOpsSIn Go.Fence.wide 0 P (List.toArray (o' :: l)) (Go.Exit.thenS (rest.wpSIn Go.Fence.wide 0 P (Go.bodyPostS P g c₀ cs fun e u' w' => ∃ rec s' φ', (∃ v', e = .returned v') ∧ K (.ret (.bool rec)) s' ∧ Post W0 φ s w φ' s' w' ∧
              Go.settle u' = (if rec = true then .returning else u))) (Go.bodyPostS P g c₀ cs fun e u' w' => ∃ rec s' φ', (∃ v', e = .returned v') ∧ K (.ret (.bool rec)) s' ∧ Post W0 φ s w φ' s' w' ∧
              Go.settle u' = (if rec = true then .returning else u))) (List.range' 1 l.length)
              (Go.Act.put { tmps := args' ++ Array.replicate (g.ntmps - args'.size) Go.undef, defers := [] } (some d) v') ({ c₀ with mode := u' } :: cs) w := by
          intro u' v' hv hse
          refine opsS_sound (X := _) (rnd := true) hr ?_ l 1 (fun i o hi => by rw [Nat.add_comm]; simpa using hi) (fun o ho i hi => ?_) (fun o ho => ?_) φ _ s _ w (hrel0.put (d := some d) (fun i hi => by injection hi with hi; exact hi ▸ hdn) hv) (Post.refl hr) h
          · intro φ' E' s' a' w' hk hrel' hp'
            refine Go.wpSIn_of_wpIn rfl ?_
            have hwp := den_sound ih hP hmix (n := 0) (r := none) (fun _ => rfl) n rest _ φ' E' s' a' w' hrel' hk
            refine Go.wpIn_mono hwp ?_
            rintro e a1 w1 ⟨ex, E1, s1, φ1, he, hq, hrel1, hp1⟩
            have fin : (match E1.ds, resVals E1 s1 rs with
                | [], some _ => K (.ret (.bool true)) s1
                | _, _ => Ans.fail) → a1.defers = [] ∧ ∃ u1, ({ c₀ with mode := u' } :: cs : List Go.Frame) = { c₀ with mode := u1 } :: cs ∧ ∃ v, (Go.results g a1.tmps).run P w1 = .ok v w1 ∧ ∃ rec s' φ', (∃ v', Ending.returned v = .returned v') ∧ K (.ret (.bool rec)) s' ∧ Post W0 φ s w φ' s' w1 ∧
                Go.settle u1 = (if rec = true then .returning else u) := by
              intro hq
              split at hq
              · rename_i hds hvs
                obtain ⟨v', h1, h2⟩ := results_sound (P := P) hrel1.r hrel1.e hrs hvs
                have hd := hrel1.d
                rw [hds] at hd
                exact ⟨hd, u', rfl, v', h1, true, s1, φ1, ⟨v', rfl⟩, hq, Post.trans hr hp' hp1, hse⟩
              · exact hq.elim
            cases ex with
            | normal => obtain rfl : e = _ := he; exact fin hq
            | exit i => exact hq.elim
            | ret => obtain rfl : e = _ := he; exact fin hq
            | panic v => exact hq.elim
          · have := List.all_eq_true.1 hall.1 o (by simpa using ho)
            rw [hi] at this; simpa using this
          · exact List.all_eq_true.1 hall.2 o (by simpa using ho)
        rcases hm with ⟨rfl, rfl⟩ | ⟨hne, v', rfl, hv⟩
        · have hrec : Go.recoverD (c₀ :: cs) = none := by simp [Go.recoverD, hu]
          rw [hrec]
          have e : ({ c₀ with mode := .returning } : Go.Frame) = c₀ := by
            obtain ⟨_, _, _, _, _, _, _⟩ := c₀
            have hu : _ = _ := hu
            simp only at hu
            rw [hu]
          have := key .returning .nilIface rfl rfl
          rw [e] at this
          exact this
        · have hrec : Go.recoverD (c₀ :: cs) = some (v', { c₀ with mode := .panicking [{ v := v', recovered := true }] } :: cs) := by simp [Go.recoverD, hu]
          rw [hrec]
          exact key _ v' hv rfl
      · cases hg2
      injection hg2 with hg2; subst hg2
      have hrel : Rel P W0 g.ntmps φ { m := envOf args 0 } s { tmps := args' ++ Array.replicate (g.ntmps - args'.size) Go.undef, defers := [] } w :=
        ⟨hr, envOf_rel hargs _ _, hg, by simp; omega, rfl⟩
      have hwp := den_sound ih hP hmix (n := 0) (r := none) (fun _ => rfl) n c _ φ _ s _ w hrel h
      refine Go.CallsDIn.mono (Go.callsDIn_of_wp (F := Go.Fence.wide) (n := 0) (R := fun e w' => ∃ s' φ', (∃ v', e = Ending.returned v') ∧ K (.ret (.bool false)) s' ∧ Post W0 φ s w φ' s' w') hg1 hbody trivial (Go.wpIn_mono hwp ?_)) ?_
      · rintro e a1 w1 ⟨ex, E', s', φ', he, hq, hrel', hp⟩
        have fin : (match E'.ds, resVals E' s' rs with
            | [], some _ => K (.ret (.bool false)) s'
            | _, _ => Ans.fail) → a1.defers = [] ∧ ∃ v, (Go.results g a1.tmps).run P w1 = .ok v w1 ∧ ∃ s' φ', (∃ v', Ending.returned v = Ending.returned v') ∧ K (.ret (.bool false)) s' ∧ Post W0 φ s w φ' s' w1 := by
          intro hq
          split at hq
          · rename_i hds hvs
            obtain ⟨v', h1, h2⟩ := results_sound (P := P) hrel'.r hrel'.e hrs hvs
            have hd := hrel'.d
            rw [hds] at hd
            exact ⟨hd, v', h1, s', φ', ⟨v', rfl⟩, hq, hp⟩
          · exact hq.elim
        cases ex with
        | normal => obtain rfl : e = _ := he; exact fin hq
        | exit i => exact hq.elim
        | ret => obtain rfl : e = _ := he; exact fin hq
        | panic v => exact hq.elim
      · rintro e u' w' ⟨rfl, s', φ', he, hk, hp⟩
        exact ⟨false, s', φ', he, hk, hp, hset⟩
    · intro l args K s h W0 φ w args' c hP hr hg hargs hb
      obtain ⟨rfl, hgood⟩ := hP
      simp only [callN] at h
      split at h
      case h_2 => exact h.elim
      rename_i st pend E0 ps as body d hget
      split at h
      case isFalse => exact h.elim
      rename_i hlen
      obtain ⟨c', sz, hat⟩ := hr.at_of_get hget (by intro hu; unfold BRel at hb; rw [hu] at hb; exact hb)
      obtain rfl : c = c' := by unfold BRel at hb; rw [hat] at hb; exact hb
      obtain ⟨r0, hw, hl1, hl2, hl3, hl4, hl5, N, hl6, hl7, hl8, hl9⟩ := hr.blk _ _ _ _ hat hget
      have hsz : args'.size = r0.params.size := by
        have h1 := hargs.length
        have h2 : r0.params.toList.length = ps.length := by rw [hl3]
        simp at h1 h2
        omega
      obtain ⟨hs1, hs2⟩ := setL_rel ps args args'.toList E0 r0.tmps hargs (fun p hp => Nat.lt_of_lt_of_le (hl7 p hp) hl6) hlen hl5
      have hfold : (r0.params.zip args').foldl (fun tmps (t, a) => tmps.setIfInBounds t a) r0.tmps = (ps.zip args'.toList).foldl (fun t (p, v) => t.setIfInBounds p v) r0.tmps := by
        rw [← Array.foldl_toList, Array.toList_zip, hl3]
      refine ⟨r0.fn, _, r0.assign, r0.body, Go.run_yield hw hsz, ?_⟩
      rw [hfold]
      have hrel : Rel W0.P W0 N φ { m := setL E0 ps args } s { tmps := (ps.zip args'.toList).foldl (fun t (p, v) => t.setIfInBounds p v) r0.tmps, defers := [] } w :=
        ⟨hr, hs1, hg, by rw [hs2]; exact hl6, rfl⟩
      rw [hl8] at h
      have hwp := den_sound ih ⟨rfl, hgood⟩ hmix (rnd := true) (n := 0) (r := some c) (fun h => by cases h) n r0.assign _ φ _ s _ w hrel h
      refine Go.roundIn_of_wpIn (F := Go.Fence.wide) (n := 0) trivial (Go.wpIn_mono hwp ?_)
      rintro e a1 w1 ⟨ex, E1, s1, φ1, he, hq, hrel1, hp1⟩
      cases ex with
      | normal =>
        obtain rfl : e = _ := he
        simp only [] at hq
        unfold beginRound at hq
        split at hq
        case h_2 => exact hq.elim
        rename_i pend1 E01 ps1 as1 body1 d1 hget1
        split at hq
        case isFalse => exact hq.elim
        rename_i hfl1
        have hat1 := hp1.rel.atOf hget1 hp1.ple hat
        obtain ⟨r1, hw1, hm1, hm2, hm3, hm4, hm5, hm6⟩ := hp1.rel.blk _ _ _ _ hat1 hget1
        have hlt1 := hp1.rel.lt _ _ _ hat1
        have hput1 := hp1.rel.put (x' := .loop .busy pend1 E01 ps1 as1 body1 d1) (o := .loop { r1 with state := .busy }) (w' := w1.putObj c (.loop { r1 with state := .busy })) hat1 hget1 rfl hfl1 rfl rfl rfl rfl
          ⟨_, Go.World.putObj_heap_same hlt1, rfl, hm2, hm3, hm4, hm5, hm6⟩
        have hp2 := Post.trans hr hp1 hput1
        refine ⟨_, Go.run_beginRound hw1 hm1, ?_⟩
        rw [hl9] at hq
        have hwp2 := den_sound ih ⟨rfl, hgood⟩ hmix (rnd := true) (n := 0) (r := some c) (fun h => by cases h) n r0.body _ φ1 _ _ a1 _ (hrel1.post hput1) hq
        refine Go.wpIn_mono hwp2 ?_
        rintro e2 a2 w2 ⟨ex2, E2, s2, φ2, he2, hq2, hrel2, hp3⟩
        have hp4 := Post.trans hr hp2 hp3
        have fin : ∀ (st' : LState) (pend' : Option Jump) (b : Bool), stOf st' = (if (jumpOf pend').isNone then Go.LoopState.ready else .done) → (jumpOf pend').isNone = b →
            (match s2.heap.get l with
              | some (.loop _ _ E0 ps as body d) => if s2.floor ≤ l then K (.ret (.bool b)) (s2.put l (.loop st' pend' E0 ps as body d)) else Ans.fail
              | _ => Ans.fail) → ∃ v w', (Go.Instr.endRound c (jumpOf pend')).run W0.P w2 = .ok v w' ∧ ∃ r s' φ', K r s' ∧ EndRel φ' r (.returned v) ∧ Post W0 φ s w φ' s' w' := by
          intro st' pend' b h1 h2 hk
          split at hk
          case h_2 => exact hk.elim
          rename_i E02 ps2 as2 body2 d2 hget2
          split at hk
          case isFalse => exact hk.elim
          rename_i hfl2
          have hat2 := hp4.rel.atOf hget2 hp4.ple hat
          obtain ⟨r2, hw2, hn1, hn2, hn3, hn4, hn5, hn6⟩ := hp4.rel.blk _ _ _ _ hat2 hget2
          have hlt2 := hp4.rel.lt _ _ _ hat2
          have hput2 := hp4.rel.put (x' := .loop st' pend' E02 ps2 as2 body2 d2) (o := .loop { r2 with state := if (jumpOf pend').isNone then .ready else .done, pending := jumpOf pend' }) (w' := w2.putObj c (.loop { r2 with state := if (jumpOf pend').isNone then .ready else .done, pending := jumpOf pend' })) hat2 hget2 rfl hfl2 rfl rfl rfl rfl
            ⟨_, Go.World.putObj_heap_same hlt2, h1.symm, rfl, hn3, hn4, hn5, hn6⟩
          exact ⟨_, _, Go.run_endRound (jumpOf pend') hw2, _, _, φ2, hk, ⟨_, rfl, by rw [h2]; rfl⟩, Post.trans hr hp4 hput2⟩
        cases ex2 with
        | normal => obtain rfl : e2 = _ := he2; exact fin .ready none true rfl rfl hq2
        | exit i => obtain rfl : e2 = _ := he2; exact fin .done (some (.exit i)) false rfl rfl hq2
        | ret => obtain rfl : e2 = _ := he2; exact fin .done (some .ret) false rfl rfl hq2
        | panic v => exact hq2.elim
      | exit i => exact hq.elim
      | ret => exact hq.elim
      | panic v => exact hq.elim
end Am
