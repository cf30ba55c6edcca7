/- Whole worlds taken in; closed runs; functions told by contracts. -/
import Derived.Test.YtbmfehgkbgdajaaGreatDoorAmCode
import Derived.Test.YtbmfehgkbgdajaaGreatDoorAmOpt
import Derived.Below
set_option linter.all false
namespace Am
open Go (IntKind FuncId TypeId Program Value World Addr Obj Calls Ending)
open Go.RowKit (Below)

variable {G : Ctx → Prop} {W0 : Ctx} {φ : Phi} {s : St} {w w' : World} {P : Program}

/-- new memory that the abstract machine does not look at -/
theorem R.grow (h : R W0 φ s w) (hh : ∀ c, c < w.heap.size → w'.heap[c]? = w.heap[c]?) (hs : w.heap.size ≤ w'.heap.size) (ho : w'.os = w.os) (hu : w'.output = w.output) : Post W0 φ s w φ s w' := by
  refine ⟨⟨?_, h.live, h.gone, h.fresh, h.inj, ?_, h.own, ?_, ?_, ho.trans h.os, hu.trans h.out, h.floor⟩, PLe.refl φ, fun _ _ => .inl rfl, fun _ _ => rfl, fun _ _ _ => rfl, Nat.le_refl _, rfl, hs, fun c hc _ => hh c hc, fun b c sz hb he => absurd he (by rw [(h.fresh b hb).1]; simp)⟩
  · intro b c sz x h1 h2; exact (h.blk b c sz x h1 h2).heap (hh c (h.lt b c sz h1))
  · intro b c sz h1; exact Nat.lt_of_lt_of_le (h.lt b c sz h1) hs
  · intro c hc; rw [hh c (Nat.lt_of_lt_of_le hc h.size)]; exact h.old c hc
  · exact Nat.le_trans h.size hs

theorem R.below (h : R W0 φ s w) (hb : Below w.heap.size w w') : Post W0 φ s w φ s w' := h.grow hb.block hb.size hb.os hb.output

/-! ### A whole world -/

def isRow (w : World) (b : Nat) : Bool := match w.heap[b]? with
  | some (.cells ..) => true
  | _ => false

def absA (w : World) (a : Addr) : Option (Nat × Nat) := match a.spot with
  | none => if isRow w a.block = true then some (a.block, a.off) else none
  | some _ => none

/-- what a cell holds -/
def absV (w : World) : Value → Val
  | .bool b => .bool b
  | .int k n => .int k n
  | .string s => .str s.data.toList
  | .pointer none => .ptr none
  | .pointer (some a) => match absA w a with
    | some p => .ptr (some p)
    | none => .undef
  | .slice none n c => .slice none n (.ex c)
  | .slice (some a) n c => match absA w a with
    | some p => .slice (some p) n (.ex c)
    | none => .undef
  | .map none => .map none
  | .nilFunc => .nilFn
  | .nilIface => .nilIface
  | _ => .undef

/-- an argument -/
def absArg (w : World) : Value → Val
  | .agg cs => .agg (cs.toList.map (absV w))
  | v => absV w v

def impRow (w : World) (arr : Array Value) (e : TypeId) : Row := { cs := arr.toList.map (absV w), opn := false, ro := true, frz := 0, clean := false, elem := some e }

def impPM (w : World) : Nat → PM Blk
  | 0 => .leaf
  | n + 1 => match w.heap[n]? with
    | some (.cells arr e _) => (impPM w n).set n (.row (impRow w arr e))
    | _ => impPM w n

def impSt (w : World) : St := { heap := impPM w w.heap.size, next := w.heap.size, floor := w.heap.size }
def impPhi (w : World) : Phi := fun b => match w.heap[b]? with
  | some (.cells arr _ _) => .at b arr.size
  | some _ => .dead
  | none => .unk

def ctxOf (P : Program) (w : World) : Ctx := { heap := w.heap, os := w.os, output := w.output, P := P }

theorem impPM_get (w : World) : ∀ (n b : Nat), (impPM w n).get b = if b < n then (match w.heap[b]? with
    | some (.cells arr e _) => some (.row (impRow w arr e))
    | _ => none) else none
  | 0, b => by simp [impPM, PM.get]
  | n + 1, b => by
    unfold impPM
    split
    · rename_i arr e fr hw
      rw [PM.get_set, impPM_get w n b]
      by_cases hb : b = n
      · subst hb; rw [if_pos rfl, if_pos (by omega), hw]
      · rw [if_neg hb]
        by_cases h1 : b < n
        · rw [if_pos h1, if_pos (by omega)]
        · rw [if_neg h1, if_neg (by omega)]
    · rename_i hno
      rw [impPM_get w n b]
      by_cases hb : b = n
      · subst hb
        rw [if_neg (by omega), if_pos (by omega)]
        split
        · rename_i arr e fr hw; exact absurd hw (hno arr e fr)
        · rfl
      · by_cases h1 : b < n
        · rw [if_pos h1, if_pos (by omega)]
        · rw [if_neg h1, if_neg (by omega)]

theorem absA_rel {w : World} {a : Addr} {p : Nat × Nat} (h : absA w a = some p) : ARel (impPhi w) p a := by
  unfold absA at h
  split at h
  · rename_i hs
    split at h
    · rename_i hr
      injection h with h; subst h
      unfold isRow at hr
      split at hr
      · rename_i arr e fr hw
        have : impPhi w a.block = .at a.block arr.size := by unfold impPhi; rw [hw]
        unfold ARel
        simp only [this]
        obtain ⟨b, o, sp⟩ := a
        simp only at hs
        rw [hs]
      · cases hr
    · cases h
  · cases h

theorem absV_rel (w : World) (v : Value) : VRel (impPhi w) (absV w v) v := by
  cases v with
  | bool b => rfl
  | int k n => rfl
  | string s => show Value.string s = Value.string ⟨s.data.toList.toArray⟩; simp
  | pointer a =>
    cases a with
    | none => rfl
    | some a =>
      simp only [absV]
      split
      · rename_i p hp; exact ⟨a, rfl, absA_rel hp⟩
      · trivial
  | slice a n c =>
    cases a with
    | none => rfl
    | some a =>
      simp only [absV]
      split
      · rename_i p hp; exact ⟨a, rfl, absA_rel hp⟩
      · trivial
  | map r => cases r <;> first | rfl | trivial
  | nilFunc => rfl
  | nilIface => rfl
  | _ => trivial

theorem absVs_rel (w : World) : ∀ l : List Value, VsRel (impPhi w) (l.map (absV w)) l
  | [] => rfl
  | v :: r => ⟨v, r, rfl, absV_rel w v, absVs_rel w r⟩

theorem absArg_rel (w : World) (v : Value) : VRel (impPhi w) (absArg w v) v := by
  unfold absArg
  split
  · rename_i cs; exact ⟨cs, rfl, absVs_rel w _⟩
  · exact absV_rel w _

theorem absArgs_rel (w : World) : ∀ l : List Value, VsRel (impPhi w) (l.map (absArg w)) l
  | [] => rfl
  | v :: r => ⟨v, r, rfl, absArg_rel w v, absArgs_rel w r⟩

theorem imp_R (P : Program) (w : World) : R (ctxOf P w) (impPhi w) (impSt w) w := by
  have hphi : ∀ b c sz, impPhi w b = .at c sz → c = b ∧ ∃ arr e fr, w.heap[b]? = some (.cells arr e fr) ∧ arr.size = sz := by
    intro b c sz h
    unfold impPhi at h
    split at h
    · rename_i arr e fr hw
      injection h with h1 h2
      exact ⟨h1.symm, arr, e, fr, hw, h2⟩
    · cases h
    · cases h
  have hget : ∀ b, (impSt w).heap.get b = (match w.heap[b]? with
      | some (.cells arr e _) => some (.row (impRow w arr e))
      | _ => none) := by
    intro b
    show (impPM w w.heap.size).get b = _
    rw [impPM_get]
    by_cases hb : b < w.heap.size
    · rw [if_pos hb]
    · rw [if_neg hb, Array.getElem?_eq_none (by omega)]
  refine ⟨?_, ?_, ?_, ?_, ?_, ?_, ?_, fun _ _ => rfl, Nat.le_refl _, rfl, rfl, Nat.le_refl _⟩
  · intro b c sz x h1 h2
    obtain ⟨rfl, arr, e, fr, hw, hsz⟩ := hphi b c sz h1
    rw [hget, hw] at h2
    injection h2 with h2; subst h2
    refine ⟨arr, e, fr, hw, hsz, by simp [impRow]; omega, ?_, fun h => (by cases h), fun h => (by cases h), fun t ht => by injection ht⟩
    have := absVs_rel w arr.toList
    show VsRel _ (arr.toList.map (absV w)) (arr.toList.take (arr.toList.map (absV w)).length)
    rw [List.length_map, List.take_length]
    exact this
  · intro b c sz h1
    obtain ⟨rfl, arr, e, fr, hw, hsz⟩ := hphi b c sz h1
    exact ⟨_, by rw [hget, hw]⟩
  · intro b h1
    rw [hget]
    unfold impPhi at h1
    split at h1
    · cases h1
    · rename_i o hno hw
      split
      · rename_i arr e fr hw2; rw [hw2] at hw; injection hw with hw; exact absurd hw.symm (hno arr e fr)
      · rfl
    · cases h1
  · intro b hb
    have hb : w.heap.size ≤ b := hb
    have hn : w.heap[b]? = none := Array.getElem?_eq_none hb
    exact ⟨by unfold impPhi; rw [hn], by rw [hget, hn]⟩
  · intro b b' c sz sz' x h1 h2 h3 h4
    obtain ⟨rfl, _⟩ := hphi b c sz h1
    exact (hphi b' _ sz' h2).1.symm
  · intro b c sz h1
    obtain ⟨rfl, arr, e, fr, hw, hsz⟩ := hphi b c sz h1
    exact (Array.getElem?_eq_some_iff.1 hw).1
  · intro b c sz x h1 h2 h3
    obtain ⟨rfl, arr, e, fr, hw, hsz⟩ := hphi b c sz h1
    rw [hget, hw] at h2
    injection h2 with h2; subst h2
    cases h3

theorem imp_G (w : World) {n : Nat} (hn : n ≤ w.heap.size) : GRel (impPhi w) n := by
  intro g hg
  have : ∃ o, w.heap[g]? = some o := ⟨_, Array.getElem?_eq_getElem (by omega)⟩
  obtain ⟨o, ho⟩ := this
  unfold ARel impPhi
  simp only [ho]
  cases o <;> trivial

/-- what a row of the world reads as -/
theorem imp_row {w : World} {b : Nat} {arr : Array Value} {e : TypeId} {fr : Nat × Nat} (h : w.heap[b]? = some (.cells arr e fr)) : (impSt w).heap.get b = some (.row (impRow w arr e)) := by
  show (impPM w w.heap.size).get b = _
  rw [impPM_get, if_pos (Array.getElem?_eq_some_iff.1 h).1, h]

/-- A LAW OVER A WHOLE WORLD. -/
theorem law_calls (hmix : P.follows .mixedOrders = true) {fns : FuncId → Option AFunc} (hT : TableOk G P fns) {f : FuncId} {w : World} (hG : G (ctxOf P w)) (hsz : P.globals.size ≤ w.heap.size) (args : Array Value)
    (h : Call fns (.fn f) (args.toList.map (absArg w)) (fun r _ => r = .ret (.bool true)) (impSt w)) : Calls P f args w fun e w' => e = .returned (.bool true) ∧ (∀ c, c < w.heap.size → w'.heap[c]? = w.heap[c]?) ∧ w.heap.size ≤ w'.heap.size ∧ w'.os = w.os ∧ w'.output = w.output := by
  unfold Call at h
  obtain ⟨n, h⟩ := h
  obtain ⟨_, hc⟩ := (callN_sound hmix hT n).fn f _ _ _ h (ctxOf P w) _ w args ⟨rfl, hG⟩ (imp_R P w) (imp_G w hsz) (absArgs_rel w args.toList)
  refine Calls.mono hc ?_
  rintro e w' ⟨r, s', φ', rfl, he, hp⟩
  obtain ⟨v', rfl, hv⟩ := he
  have hv : v' = .bool true := hv
  subst hv
  exact ⟨rfl, hp.rel.old, hp.rel.size, hp.rel.os, hp.rel.out⟩

/-! ### What is asked of the world -/

/-- it is told by old memory -/
def Keeps (G : Ctx → Prop) : Prop := ∀ A B : Ctx, (∀ c, c < A.heap.size → B.heap[c]? = A.heap[c]?) → G A → G B

theorem Keeps.now (hk : Keeps G) (hf : Fits G P W0) (hr : R W0 φ s w) : G (ctxOf P w) := hk W0 _ (fun c hc => hr.old c hc) hf.2

/-- what a package-level variable holds -/
def varAt (P : Program) (W : Array Obj) (name : String) : Option (Array Value) := (P.globalNamed name).bind fun g => match W[g]? with
  | some (.cells cs _ _) => some cs
  | _ => none

theorem varAt_keep {A B : Array Obj} (h : ∀ c, c < A.size → B[c]? = A[c]?) {name : String} {v : Array Value} (hv : varAt P A name = some v) : varAt P B name = some v := by
  unfold varAt at hv ⊢
  cases hg : P.globalNamed name with
  | none => rw [hg] at hv; cases hv
  | some g =>
    rw [hg] at hv
    simp only [Option.bind_some] at hv ⊢
    split at hv
    · rename_i cs t fr hw
      rw [h g (Array.getElem?_eq_some_iff.1 hw).1, hw]
      exact hv
    · cases hv

theorem varAt_world {w : World} {name : String} : w.var? P name = varAt P w.heap name := rfl

theorem varAt_cell {w : World} {name : String} {g : Nat} {v : Array Value} (hg : P.globalNamed name = some g) (h : varAt P w.heap name = some v) (i : Nat) : w.cell? ⟨g, i, none⟩ = v[i]? := by
  unfold varAt at h
  rw [hg] at h
  simp only [Option.bind_some] at h
  split at h
  · rename_i cs t fr hw
    injection h with h; subst h
    exact cell_of hw
  · cases h

/-! ### Closed runs -/

def baseSt (n : Nat) : St := { heap := .leaf, next := n, floor := n }
def basePhi (n : Nat) : Phi := fun b => if b < n then .dead else .unk

theorem base_R (P : Program) (w : World) (n : Nat) : R (ctxOf P w) (basePhi n) (baseSt n) w := by
  have hno : ∀ b c sz, basePhi n b ≠ .at c sz := by intro b c sz h; unfold basePhi at h; split at h <;> cases h
  refine ⟨fun b c sz x h => absurd h (hno b c sz), fun b c sz h => absurd h (hno b c sz), fun b _ => rfl, ?_, fun b b' c sz sz' x h => absurd h (hno b c sz), fun b c sz h => absurd h (hno b c sz), fun b c sz x h => absurd h (hno b c sz), fun _ _ => rfl, Nat.le_refl _, rfl, rfl, Nat.le_refl _⟩
  intro b hb
  have hb : n ≤ b := hb
  exact ⟨by unfold basePhi; rw [if_neg (by omega)], rfl⟩

theorem base_G (n m : Nat) (h : m ≤ n) : GRel (basePhi n) m := by
  intro g hg
  unfold ARel basePhi
  simp only [if_pos (show g < n by omega)]

/-- values that lie in no memory -/
def Val.flat : Val → Bool
  | .bool _ | .int _ _ | .str _ => true
  | _ => false

theorem flat_rel {v : Val} (hv : v.flat = true) {φ φ' : Phi} {x : Value} (h : VRel φ v x) : VRel φ' v x := by
  cases v <;> first | (cases hv; done) | exact h

/-- what a closed run gives -/
def ansOf (r : Res) (_ : St) : Option Val := match r with
  | .ret v => if v.flat then some v else none
  | .pan _ => none

/-- A CLOSED RUN, as a contract. Asks nothing of the world that G does not. -/
theorem nat_closed (hmix : P.follows .mixedOrders = true) {fns : FuncId → Option AFunc} (hT : TableOk G P fns) (hk : Keeps G) {f : FuncId} (hb : hasBody P f = true) {n fuel : Nat} (hn : P.globals.size ≤ n) {v : Val}
    (h : callN (ρ := Option Val) fns fuel (.fn f) [] ansOf (baseSt n) = some v) : NatOk G P f (fun args s => if args.isEmpty then some (v, s) else none) := by
  refine ⟨hb, ?_⟩
  intro args s x s' hx W0 φ w args' hP hr hg hargs
  dsimp only at hx
  split at hx
  case isFalse => cases hx
  rename_i he
  simp only [Option.some.injEq, Prod.mk.injEq] at hx
  obtain ⟨rfl, rfl⟩ := hx
  obtain rfl : args = [] := by simpa using he
  have h0 : args'.toList = [] := hargs
  obtain rfl : args' = #[] := by cases args'; simp_all
  have hp := callN_op fns fuel (.fn f) [] ansOf (fun r s => ansOf r s = some v) (baseSt n) v (fun _ _ h => h) h
  obtain ⟨_, hc⟩ := (callN_sound hmix hT fuel).fn f _ _ _ hp (ctxOf P w) _ w #[] ⟨rfl, hk.now hP hr⟩ (base_R P w n) (base_G n _ hn) VsRel.nil
  refine Calls.mono hc ?_
  rintro e w' ⟨r, s', φ', ha, he, hpo⟩
  cases r with
  | pan v => cases ha
  | ret y =>
    simp only [ansOf] at ha
    split at ha
    case isFalse => cases ha
    rename_i hfl
    injection ha with ha; subst ha
    obtain ⟨v', rfl, hv⟩ := he
    exact ⟨v', φ, rfl, flat_rel hfl hv, hr.grow hpo.rel.old hpo.rel.size hpo.rel.os hpo.rel.out⟩

/-! ### Tables -/

abbrev Nat' := List Val → St → Option (Val × St)

/-- the program's functions, some of them by contracts -/
def tabOf (P : Program) (nats : List (Nat × Nat')) (f : FuncId) : Option AFunc := match nats.lookup f with
  | some g => some (natFunc g)
  | none => (P.funcs[f]?).bind (compFunc P)

theorem compFunc_body {fn : Go.Func} {a : AFunc} (h : compFunc P fn = some a) : fn.body.isSome = true := by
  unfold compFunc at h
  split at h
  · rename_i hb _; simp [hb]
  · cases h

theorem tabOf_ok (hn : (P.funcs.toList.all fun fn => fn.name != "runtime.NumGoroutine") = true) {nats : List (Nat × Nat')} (h : ∀ p ∈ nats, NatOk G P p.1 p.2) : TableOk G P (tabOf P nats) := by
  intro f fn hf
  unfold tabOf at hf
  split at hf
  · rename_i g hg
    injection hf with hf
    refine .inr ⟨g, hf.symm, ?_⟩
    have : (f, g) ∈ nats := by
      clear h hf
      induction nats with
      | nil => cases hg
      | cons p r ih =>
        obtain ⟨k, x⟩ := p
        rw [List.lookup_cons] at hg
        split at hg
        · rename_i hk
          injection hg with hg; subst hg
          have : f = k := by simpa using hk
          subst this
          exact List.mem_cons_self
        · exact List.mem_cons_of_mem _ (ih hg)
    exact h _ this
  · cases hg : P.funcs[f]? with
    | none => rw [hg] at hf; cases hf
    | some g =>
      rw [hg] at hf
      refine .inl ⟨g, rfl, hf, ?_⟩
      unfold hasBody
      rw [hg]
      simp only [compFunc_body hf, Bool.true_and]
      exact List.all_eq_true.1 hn g (Array.mem_of_getElem? hg).val

theorem tab_code {nats : List (Nat × Nat')} {f : FuncId} {fn : Go.Func} {a : AFunc} (hn : nats.lookup f = none) (hf : P.funcs[f]? = some fn) (hc : compFunc P fn = some a) : tabOf P nats f = some a := by
  unfold tabOf; rw [hn, hf]; exact hc

theorem tab_nat {nats : List (Nat × Nat')} {f : FuncId} {g : Nat'} (hn : nats.lookup f = some g) : tabOf P nats f = some (natFunc g) := by
  unfold tabOf; rw [hn]

end Am
