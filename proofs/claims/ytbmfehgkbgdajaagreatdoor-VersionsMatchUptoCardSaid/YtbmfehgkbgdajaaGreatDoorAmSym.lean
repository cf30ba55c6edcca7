/- Walking the abstract machine's code symbolically. -/
import Derived.Test.YtbmfehgkbgdajaaGreatDoorAmFree
import Derived.Test.YtbmfehgkbgdajaaGreatDoorAmHeap
set_option linter.all false
namespace Am
open Go (FuncId TypeId IntKind)

attribute [local semireducible] Run atEnd Call
variable {fns : FuncId → Option AFunc}

/-! ### Code -/

def Ops (fns : FuncId → Option AFunc) (l : List AOper) (E : Env) (X : Val → Env → St → Prop) (K : Env → St → Prop) (s : St) : Prop := denOps (Call fns) l E X K s

def seqQ (fns : FuncId → Option AFunc) (b : ACode) (Q : Ex → Env → St → Prop) : Ex → Env → St → Prop := fun e E s => match e with
  | .normal => Run fns b E Q s
  | e => Q e E s
def blockQ (id : Nat) (Q : Ex → Env → St → Prop) : Ex → Env → St → Prop := fun e E s => match e with
  | .exit i => if i = id then Q .normal E s else Q (.exit i) E s
  | e => Q e E s
def loopQ (I : Nat → Env → St → Prop) (m : Nat) (Q : Ex → Env → St → Prop) : Ex → Env → St → Prop := fun e E s => match e with
  | .normal => ∃ m', m' < m ∧ I m' E s
  | e => Q e E s
def panX (m : List Nat) (Q : Ex → Env → St → Prop) : Val → Env → St → Prop := fun v E s => Q (.panic v) (dropL E m) s

section
variable {a b : ACode} {E : Env} {Q : Ex → Env → St → Prop} {s : St}
theorem run_seq (h : Run fns a E (seqQ fns b Q) s) : Run fns (.seq a b) E Q s := h
theorem run_ops {m : List Nat} {l : List AOper} (h : Ops fns l E (panX m Q) (Q .normal) s) : Run fns (.ops m l) E Q s := h
theorem run_block {id : Nat} (h : Run fns a E (blockQ id Q) s) : Run fns (.block id a) E Q s := h
theorem run_skip (h : Q .normal E s) : Run fns .skip E Q s := h
theorem run_exit {id : Nat} (h : Q (.exit id) E s) : Run fns (.exit id) E Q s := h
theorem run_ret (h : Q .ret E s) : Run fns .ret E Q s := h
theorem run_cond_t {c : AOpd} (hc : c.ev E = .bool true) (h : Run fns a E Q s) : Run fns (.cond c a b) E Q s := by unfold Run; simp only [denG, hc]; exact h
theorem run_cond_f {c : AOpd} (hc : c.ev E = .bool false) (h : Run fns b E Q s) : Run fns (.cond c a b) E Q s := by unfold Run; simp only [denG, hc]; exact h
theorem run_cond {c : AOpd} {t : Bool} (hc : c.ev E = .bool t) (h1 : t = true → Run fns a E Q s) (h2 : t = false → Run fns b E Q s) : Run fns (.cond c a b) E Q s := by
  cases t
  · exact run_cond_f hc (h2 rfl)
  · exact run_cond_t hc (h1 rfl)
theorem run_rounds (I : Nat → Env → St → Prop) (hI : ∀ m E s, I m E s → Run fns a E (loopQ I m Q) s) {m : Nat} (h : I m E s) : Run fns (.loop a) E Q s :=
  run_loop fns I (fun m E s h => run_le fns (fun e E s h => by cases e <;> exact h) (hI m E s h)) h
theorem run_once (h : Run fns a E (seqQ fns (.loop a) Q) s) : Run fns (.loop a) E Q s :=
  run_once' fns (run_le fns (fun e E s h => by cases e <;> exact h) h)
theorem seq_normal (h : Run fns b E Q s) : seqQ fns b Q .normal E s := h
theorem seq_ret (h : Q .ret E s) : seqQ fns b Q .ret E s := h
theorem seq_exit {i : Nat} (h : Q (.exit i) E s) : seqQ fns b Q (.exit i) E s := h
theorem seq_panic {v : Val} (h : Q (.panic v) E s) : seqQ fns b Q (.panic v) E s := h
theorem block_normal {i : Nat} (h : Q .normal E s) : blockQ i Q .normal E s := h
theorem block_ret {i : Nat} (h : Q .ret E s) : blockQ i Q .ret E s := h
theorem block_panic {i : Nat} {v : Val} (h : Q (.panic v) E s) : blockQ i Q (.panic v) E s := h
theorem block_exit {i : Nat} (h : Q .normal E s) : blockQ i Q (.exit i) E s := by
  show (if i = i then _ else _); rw [if_pos rfl]; exact h
theorem block_out {i j : Nat} (hij : (j == i) = false) (h : Q (.exit j) E s) : blockQ i Q (.exit j) E s := by
  show (if j = i then _ else _); rw [if_neg (by simpa using hij)]; exact h
theorem loop_ret {I : Nat → Env → St → Prop} {m : Nat} (h : Q .ret E s) : loopQ I m Q .ret E s := h
theorem loop_exit {I : Nat → Env → St → Prop} {m i : Nat} (h : Q (.exit i) E s) : loopQ I m Q (.exit i) E s := h
theorem loop_panic {I : Nat → Env → St → Prop} {m : Nat} {v : Val} (h : Q (.panic v) E s) : loopQ I m Q (.panic v) E s := h
theorem loop_normal {I : Nat → Env → St → Prop} {m : Nat} (m' : Nat) (hm : m' < m) (h : I m' E s) : loopQ I m Q .normal E s := ⟨m', hm, h⟩
end

section
variable {E : Env} {X : Val → Env → St → Prop} {K : Env → St → Prop} {s s' : St} {r : List AOper} {d : Option Nat} {v : Val}
theorem ops_nil (h : K E s) : Ops fns [] E X K s := h
theorem goOn_of {c : Chk} {K : Env → St → Prop} (hc : chkOk E s c = true) (h : K E s) : goOn c E s K := by
  unfold goOn
  split
  · exact h
  · rw [if_pos hc]; exact h
theorem opsEq_op {o : AOp} {g : Option (Nat × Bool)} {c : Chk} : Ops fns (.op d g o c :: r) E X K s =
    denOne (Call fns) (.op d g o c) E (fun v s => X v E s) (fun v s' => goOn c (setO E d v) s' fun E s => Ops fns r E X K s) (Ops fns r (setO E d (.tup [])) X K s) s := rfl
theorem opsEq_call {f : FuncId} {as : List AOpd} {g : Option (Nat × Bool)} {c : Chk} : Ops fns (.call d g f as c :: r) E X K s =
    denOne (Call fns) (.call d g f as c) E (fun v s => X v E s) (fun v s' => goOn c (setO E d v) s' fun E s => Ops fns r E X K s) (Ops fns r (setO E d (.tup [])) X K s) s := rfl
theorem opsEq_callv {f : AOpd} {as : List AOpd} {g : Option (Nat × Bool)} {c : Chk} : Ops fns (.callv d g f as c :: r) E X K s =
    denOne (Call fns) (.callv d g f as c) E (fun v s => X v E s) (fun v s' => goOn c (setO E d v) s' fun E s => Ops fns r E X K s) (Ops fns r (setO E d (.tup [])) X K s) s := rfl
theorem op_step {o : AOp} (he : evOp o E s = some (v, s')) (h : Ops fns r (setO E d v) X K s') : Ops fns (.op d none o [] :: r) E X K s := by
  rw [opsEq_op]
  simp only [denOne, wanted, he]
  exact h
theorem op_chk {o : AOp} {c : Chk} (he : evOp o E s = some (v, s')) (hc : chkOk (setO E d v) s' c = true) (h : Ops fns r (setO E d v) X K s') : Ops fns (.op d none o c :: r) E X K s := by
  rw [opsEq_op]
  simp only [denOne, wanted, he]
  exact goOn_of hc h
theorem op_yes {o : AOp} {c : Chk} {j : Nat} {b : Bool} (hj : E.get j = .bool b) (he : evOp o E s = some (v, s')) (hc : chkOk (setO E d v) s' c = true) (h : Ops fns r (setO E d v) X K s') : Ops fns (.op d (some (j, b)) o c :: r) E X K s := by
  rw [opsEq_op]
  simp only [denOne, wanted, hj, beq_self_eq_true, if_true, he]
  exact goOn_of hc h
theorem op_no {o : AOp} {c : Chk} {j : Nat} {b b' : Bool} (hj : E.get j = .bool b') (hb : (b' == b) = false) (h : Ops fns r (setO E d (.tup [])) X K s) : Ops fns (.op d (some (j, b)) o c :: r) E X K s := by
  rw [opsEq_op]
  simp only [denOne, wanted, hj, hb, Bool.false_eq_true, if_false]
  exact h
theorem op_skip {o : AOp} {c : Chk} {j : Nat} {b : Bool} (hj : E.get j = .tup []) (h : Ops fns r (setO E d (.tup [])) X K s) : Ops fns (.op d (some (j, b)) o c :: r) E X K s := by
  rw [opsEq_op]
  simp only [denOne, wanted, hj]
  exact h

/-- what is done behind a call -/
def callK (fns : FuncId → Option AFunc) (d : Option Nat) (c : Chk) (r : List AOper) (E : Env) (X : Val → Env → St → Prop) (K : Env → St → Prop) : Res → St → Prop :=
  upon (fun v s => X v E s) (fun v s' => goOn c (setO E d v) s' fun E s => Ops fns r E X K s)
theorem call_step {f : FuncId} {as : List AOpd} {c : Chk} (h : Call fns (.fn f) (evs E as) (callK fns d c r E X K) s) : Ops fns (.call d none f as c :: r) E X K s := h
theorem call_yes {f : FuncId} {as : List AOpd} {c : Chk} {j : Nat} {b : Bool} (hj : E.get j = .bool b) (h : Call fns (.fn f) (evs E as) (callK fns d c r E X K) s) : Ops fns (.call d (some (j, b)) f as c :: r) E X K s := by
  rw [opsEq_call]
  simp only [denOne, wanted, hj, beq_self_eq_true, if_true]
  exact h
theorem call_no {f : FuncId} {as : List AOpd} {c : Chk} {j : Nat} {b b' : Bool} (hj : E.get j = .bool b') (hb : (b' == b) = false) (h : Ops fns r (setO E d (.tup [])) X K s) : Ops fns (.call d (some (j, b)) f as c :: r) E X K s := by
  rw [opsEq_call]
  simp only [denOne, wanted, hj, hb, Bool.false_eq_true, if_false]
  exact h
theorem call_skip {f : FuncId} {as : List AOpd} {c : Chk} {j : Nat} {b : Bool} (hj : E.get j = .tup []) (h : Ops fns r (setO E d (.tup [])) X K s) : Ops fns (.call d (some (j, b)) f as c :: r) E X K s := by
  rw [opsEq_call]
  simp only [denOne, wanted, hj]
  exact h
theorem callv_step {f : FuncId} {p q : List Val} {fo : AOpd} {as : List AOpd} {c : Chk} (hf : fo.ev E = .fn f p q) (h : Call fns (.fn f) (p ++ evs E as ++ q) (callK fns d c r E X K) s) : Ops fns (.callv d none fo as c :: r) E X K s := by
  rw [opsEq_callv]
  simp only [denOne, wanted, hf]
  exact h
theorem callK_ret (h : Ops fns r (setO E d v) X K s) : callK fns d [] r E X K (.ret v) s := h
theorem callK_chk {c : Chk} (hc : chkOk (setO E d v) s c = true) (h : Ops fns r (setO E d v) X K s) : callK fns d c r E X K (.ret v) s := goOn_of (K := fun E s => Ops fns r E X K s) hc h
end

/-- a function that defers nothing ends -/
theorem end_ret {fn : AFunc} {K : Res → St → Prop} {E : Env} {s : St} {vs : List Val} (hd : E.ds = []) (hr : resVals E s fn.res = some vs) (h : K (.ret (resVal vs)) s) : atEnd fns fn K .ret E s := by
  show leave _ _ _ _ E.ds none s
  rw [hd]; simp only [leave, hr]; exact h
theorem end_normal {fn : AFunc} {K : Res → St → Prop} {E : Env} {s : St} {vs : List Val} (hd : E.ds = []) (hr : resVals E s fn.res = some vs) (h : K (.ret (resVal vs)) s) : atEnd fns fn K .normal E s := by
  show leave _ _ _ _ E.ds none s
  rw [hd]; simp only [leave, hr]; exact h

/-! ### Slots -/

theorem env_get_set (E : Env) (i j : Nat) (v : Val) : (E.set i v).get j = if j = i then v else E.get j := by
  unfold Env.get Env.set
  simp only []
  rw [PM.get_set]
  by_cases h : j = i <;> simp [h]
theorem env_ds_set (E : Env) (i : Nat) (v : Val) : (E.set i v).ds = E.ds := rfl
theorem setO_some (E : Env) (i : Nat) (v : Val) : setO E (some i) v = E.set i v := rfl
theorem setO_none (E : Env) (v : Val) : setO E none v = E := rfl
theorem ev_t (E : Env) (i : Nat) : AOpd.ev E (.t i) = E.get i := rfl
theorem ev_c (E : Env) (v : Val) : AOpd.ev E (.c v) = v := rfl
theorem evs_nil (E : Env) : evs E [] = [] := rfl
theorem evs_cons (E : Env) (x : AOpd) (r : List AOpd) : evs E (x :: r) = x.ev E :: evs E r := rfl
theorem env0_get (vs : List Val) (i : Nat) : ({ m := envOf vs 0 } : Env).get i = (vs[i]?).getD .undef := by
  have h : ∀ (vs : List Val) (k i : Nat), ((PM.get (envOf vs k) i)).getD .undef = if k ≤ i then (vs[i - k]?).getD .undef else .undef := by
    intro vs
    induction vs with
    | nil => intro k i; simp [envOf, PM.get]
    | cons v r ih =>
      intro k i
      simp only [envOf, PM.get_set]
      by_cases hk : i = k
      · subst hk; simp
      · rw [if_neg hk, ih]
        by_cases h1 : k + 1 ≤ i
        · rw [if_pos h1, if_pos (by omega)]
          have : i - k = (i - (k + 1)) + 1 := by omega
          rw [this]; simp
        · rw [if_neg h1, if_neg (by omega)]
  have := h vs 0 i
  simpa [Env.get] using this
theorem env0_ds (m : PM Val) : ({ m := m } : Env).ds = [] := rfl

/-! ### The heap -/

theorem get_alloc (s : St) (x : Blk) (b : Nat) : (s.alloc x).heap.get b = if b = s.next then some x else s.heap.get b := PM.get_set _ _ _ _
theorem get_put (s : St) (x : Blk) (c b : Nat) : (s.put c x).heap.get b = if b = c then some x else s.heap.get b := PM.get_set _ _ _ _
theorem get_kill (s : St) (c b : Nat) : (s.kill c).heap.get b = if b = c then none else s.heap.get b := PM.get_del _ _ _
theorem next_alloc (s : St) (x : Blk) : (s.alloc x).next = s.next + 1 := rfl
theorem next_put (s : St) (x : Blk) (c : Nat) : (s.put c x).next = s.next := rfl
theorem next_kill (s : St) (c : Nat) : (s.kill c).next = s.next := rfl
theorem floor_alloc (s : St) (x : Blk) : (s.alloc x).floor = s.floor := rfl
theorem floor_put (s : St) (x : Blk) (c : Nat) : (s.put c x).floor = s.floor := rfl
theorem floor_kill (s : St) (c : Nat) : (s.kill c).floor = s.floor := rfl

/-- what was there is there as it was -/
structure Ext (s s' : St) : Prop where
  next : s.next ≤ s'.next
  floor : s'.floor = s.floor
  get : ∀ b, b < s.next → s'.heap.get b = s.heap.get b

theorem Ext.refl (s : St) : Ext s s := ⟨Nat.le_refl _, rfl, fun _ _ => rfl⟩
theorem Ext.trans {s s' s'' : St} (h : Ext s s') (h' : Ext s' s'') : Ext s s'' :=
  ⟨Nat.le_trans h.next h'.next, h'.floor.trans h.floor, fun b hb => (h'.get b (Nat.lt_of_lt_of_le hb h.next)).trans (h.get b hb)⟩
theorem Ext.alloc {s s' : St} (h : Ext s s') (x : Blk) : Ext s (s'.alloc x) :=
  ⟨Nat.le_succ_of_le h.next, h.floor, fun b hb => by rw [get_alloc, if_neg (by have := h.next; omega)]; exact h.get b hb⟩
theorem Ext.put {s s' : St} (h : Ext s s') {c : Nat} (hc : s.next ≤ c) (x : Blk) : Ext s (s'.put c x) :=
  ⟨h.next, h.floor, fun b hb => by rw [get_put, if_neg (by omega)]; exact h.get b hb⟩
theorem Ext.kill {s s' : St} (h : Ext s s') {c : Nat} (hc : s.next ≤ c) : Ext s (s'.kill c) :=
  ⟨h.next, h.floor, fun b hb => by rw [get_kill, if_neg (by omega)]; exact h.get b hb⟩
theorem Ext.keep {s s' : St} (h : Ext s s') {b : Nat} {x : Option Blk} (hx : s.heap.get b = x) (hb : b < s.next) : s'.heap.get b = x := (h.get b hb).trans hx

theorem fin {K : Res → St → Prop} {v v' : Val} {s : St} (h : K (.ret v) s) (hv : v = v') : K (.ret v') s := hv ▸ h
theorem fin_ext {K : Res → St → Prop} {v v' : Val} {st s' : St} (h : ∀ st', Ext st st' → K (.ret v) st') (hv : v = v') (hx : Ext st s') : K (.ret v') s' := hv ▸ h _ hx

/-! ### Values are themselves -/
mutual
theorem vbeq_self : ∀ v : Val, vbeq v v = true
  | .undef => rfl
  | .bool b => by simp [vbeq]
  | .int k n => by simp [vbeq]
  | .str s => by simp [vbeq]
  | .ptr a => by simp [vbeq]
  | .slice a n c => by simp [vbeq]
  | .map r => by simp [vbeq]
  | .fn f p q => by simp [vbeq, vsbeq_self p, vsbeq_self q]
  | .nilFn => rfl
  | .yld l => by simp [vbeq]
  | .nilIface => rfl
  | .iface t v => by simp [vbeq, vbeq_self v]
  | .agg cs => by simp [vbeq, vsbeq_self cs]
  | .tup cs => by simp [vbeq, vsbeq_self cs]
theorem vsbeq_self : ∀ l : List Val, vsbeq l l = true
  | [] => rfl
  | a :: r => by simp [vsbeq, vbeq_self a, vsbeq_self r]
end

/-! ### Guards, and what is not known of them -/

section
variable {E : Env} {X : Val → Env → St → Prop} {K : Env → St → Prop} {s s' : St} {r : List AOper} {d : Option Nat} {v : Val}
theorem op_guard {o : AOp} {c : Chk} {j : Nat} {b t : Bool} (hj : E.get j = .bool t) (h1 : t = b → Ops fns (.op d none o c :: r) E X K s) (h2 : t = (!b) → Ops fns r (setO E d (.tup [])) X K s) :
    Ops fns (.op d (some (j, b)) o c :: r) E X K s := by
  by_cases h : t = b
  · subst h
    have := h1 rfl
    rw [opsEq_op] at this ⊢
    simp only [denOne, wanted, hj, beq_self_eq_true, if_true] at this ⊢
    exact this
  · have h' : t = (!b) := by cases t <;> cases b <;> simp_all
    exact op_no hj (by simp [h]) (h2 h')
theorem call_guard {f : FuncId} {as : List AOpd} {c : Chk} {j : Nat} {b t : Bool} (hj : E.get j = .bool t) (h1 : t = b → Call fns (.fn f) (evs E as) (callK fns d c r E X K) s) (h2 : t = (!b) → Ops fns r (setO E d (.tup [])) X K s) :
    Ops fns (.call d (some (j, b)) f as c :: r) E X K s := by
  by_cases h : t = b
  · subst h; exact call_yes hj (h1 rfl)
  · have h' : t = (!b) := by cases t <;> cases b <;> simp_all
    exact call_no hj (by simp [h]) (h2 h')
end

/-- what is done by a guard's value -/
def Grd (v : Val) (b : Bool) (yes no : Prop) : Prop := match v with
  | .bool t => (t = b → yes) ∧ (t = (!b) → no)
  | .tup [] => no
  | _ => False
theorem grd_skip {b : Bool} {yes no : Prop} (h : no) : Grd (.tup []) b yes no := h
theorem grd_tt {yes no : Prop} (h : yes) : Grd (.bool true) true yes no := ⟨fun _ => h, fun hb => by cases hb⟩
theorem grd_ff {yes no : Prop} (h : yes) : Grd (.bool false) false yes no := ⟨fun _ => h, fun hb => by cases hb⟩
theorem grd_tf {yes no : Prop} (h : no) : Grd (.bool true) false yes no := ⟨fun hb => (by cases hb), fun _ => h⟩
theorem grd_ft {yes no : Prop} (h : no) : Grd (.bool false) true yes no := ⟨fun hb => (by cases hb), fun _ => h⟩
theorem grd {t b : Bool} {yes no : Prop} (h1 : t = b → yes) (h2 : t = (!b) → no) : Grd (.bool t) b yes no := ⟨h1, h2⟩

section
variable {E : Env} {X : Val → Env → St → Prop} {K : Env → St → Prop} {s s' : St} {r : List AOper} {d : Option Nat} {v : Val}
theorem op_grd {o : AOp} {c : Chk} {j : Nat} {b : Bool} (hj : E.get j = v) (h : Grd v b (Ops fns (.op d none o c :: r) E X K s) (Ops fns r (setO E d (.tup [])) X K s)) : Ops fns (.op d (some (j, b)) o c :: r) E X K s := by
  unfold Grd at h
  split at h
  · exact op_guard hj h.1 h.2
  · exact op_skip hj h
  · exact h.elim
theorem call_grd {f : FuncId} {as : List AOpd} {c : Chk} {j : Nat} {b : Bool} (hj : E.get j = v) (h : Grd v b (Call fns (.fn f) (evs E as) (callK fns d c r E X K) s) (Ops fns r (setO E d (.tup [])) X K s)) : Ops fns (.call d (some (j, b)) f as c :: r) E X K s := by
  unfold Grd at h
  split at h
  · exact call_guard hj h.1 h.2
  · exact call_skip hj h
  · exact h.elim
theorem run_cnd {c : AOpd} {a b : ACode} {Q : Ex → Env → St → Prop} {t : Bool} (hj : c.ev E = .bool t) (h : Grd (.bool t) true (Run fns a E Q s) (Run fns b E Q s)) : Run fns (.cond c a b) E Q s := run_cond hj h.1 h.2
end

/-! ### Reading the heap -/

def rowOf (s : St) (b : Nat) : Option Row := s.row? b
theorem row_alloc (s : St) (r : Row) (b : Nat) : (s.alloc (.row r)).row? b = if b = s.next then some r else s.row? b := by
  unfold St.row?; rw [get_alloc]; by_cases h : b = s.next <;> simp [h]
theorem row_put (s : St) (r : Row) (c b : Nat) : (s.put c (.row r)).row? b = if b = c then some r else s.row? b := by
  unfold St.row?; rw [get_put]; by_cases h : b = c <;> simp [h]
theorem row_kill (s : St) (c b : Nat) : (s.kill c).row? b = if b = c then none else s.row? b := by
  unfold St.row?; rw [get_kill]; by_cases h : b = c <;> simp [h]
theorem Ext.row {s s' : St} (h : Ext s s') {b : Nat} (hb : b < s.next) : s'.row? b = s.row? b := by
  unfold St.row?; rw [h.get b hb]
theorem Ext.rows {s s' : St} (h : Ext s s') : ∀ b, b < s.next → s'.row? b = s.row? b := fun b hb => h.row hb
theorem load1_eq (s : St) (a : Nat × Nat) : s.load1 a = (s.row? a.1).bind fun r => r.cs[a.2]? := by unfold St.load1; cases s.row? a.1 <;> rfl

theorem wrap64 : ∀ n : Int, -9223372036854775808 ≤ n → n ≤ 9223372036854775807 → IntKind.i64.wrap n = n := by
  intro n h0 h1
  simp [IntKind.wrap, IntKind.signed, IntKind.bits]; omega
theorem ne_lt : ∀ a b : Nat, a < b → (a = b) = False := fun a b h => by simp; omega
theorem ne_gt : ∀ a b : Nat, b < a → (a = b) = False := fun a b h => by simp; omega
/-- arithmetic that is found elsewhere -/
theorem arR : (∀ a b : Nat, a ≤ b → (a ≤ b) = True) ∧ (∀ a b : Int, a ≤ b → (a ≤ b) = True) ∧ (∀ a b : Nat, a < b → (a < b) = True) ∧ (∀ a b : Int, a < b → (a < b) = True) := by
  refine ⟨?_, ?_, ?_, ?_⟩ <;> intro a b h <;> simp <;> exact h
theorem le_refl' (n : Nat) : (n ≤ n) = True := by simp

/-- the rules by which an operation is done -/
theorem wk : (∀ (E : Env) (i : Nat), AOpd.ev E (.t i) = E.get i) ∧ (∀ (E : Env) (v : Val), AOpd.ev E (.c v) = v) ∧
    (∀ (E : Env) (i j : Nat) (v : Val), (E.set i v).get j = if j = i then v else E.get j) ∧ (∀ (vs : List Val) (i : Nat), ({ m := envOf vs 0 } : Env).get i = (vs[i]?).getD .undef) ∧
    (∀ (E : Env) (i : Nat) (v : Val), setO E (some i) v = E.set i v) ∧ (∀ (E : Env) (v : Val), setO E none v = E) ∧ (∀ E : Env, evs E [] = []) ∧ (∀ (E : Env) (x : AOpd) (r : List AOpd), evs E (x :: r) = x.ev E :: evs E r) ∧
    (∀ (s : St) (r : Row) (b : Nat), b = s.next → (s.alloc (.row r)).row? b = some r) ∧ (∀ (s : St) (r : Row) (b : Nat), b < s.next → (s.alloc (.row r)).row? b = s.row? b) ∧ (∀ (s : St) (r : Row) (b : Nat), (s.put b (.row r)).row? b = some r) ∧ (∀ (s : St) (r : Row) (c b : Nat), b ≠ c → (s.put c (.row r)).row? b = s.row? b) ∧
    (∀ (s : St) (x : Blk), (s.alloc x).next = s.next + 1) ∧ (∀ (s : St) (x : Blk) (c : Nat), (s.put c x).next = s.next) ∧ (∀ (s : St) (x : Blk), (s.alloc x).floor = s.floor) ∧ (∀ (s : St) (x : Blk) (c : Nat), (s.put c x).floor = s.floor) ∧
    (∀ v : Val, vbeq v v = true) ∧ (∀ (E : Env) (i : Nat) (v : Val), (E.set i v).ds = E.ds) ∧ (∀ n : Int, -9223372036854775808 ≤ n → n ≤ 9223372036854775807 → IntKind.i64.wrap n = n) :=
  ⟨ev_t, ev_c, env_get_set, env0_get, setO_some, setO_none, evs_nil, evs_cons, fun s r b h => by rw [row_alloc, if_pos h], fun s r b h => by rw [row_alloc, if_neg (by omega)], fun s r b => by rw [row_put, if_pos rfl], fun s r c b h => by rw [row_put, if_neg h], next_alloc, next_put, floor_alloc, floor_put, vbeq_self, env_ds_set, wrap64⟩

/-- what each operation gives -/
theorem evR : (∀ x (E : Env) (s : St), evOp (AOp.move x) E s = (some (x.ev E, s))) ∧
    (∀ c a b (E : Env) (s : St), evOp (AOp.pick c a b) E s = (match c.ev E with
    | .bool t => some (if t then a.ev E else b.ev E, s)
    | _ => none)) ∧
    (∀ e zero (E : Env) (s : St), evOp (AOp.newRow e zero) E s = (some (.ptr (some (s.next, 0)), s.alloc (.row { cs := zero, opn := false, ro := false, frz := 0, elem := some e })))) ∧
    (∀ e x (E : Env) (s : St), evOp (AOp.box e x) E s = (let cs := (x.ev E).cells
    if allOne cs then some (.ptr (some (s.next, 0)), s.alloc (.row { cs := cs, opn := false, ro := false, frz := 0, elem := some e })) else none)) ∧
    (∀ zero parts (E : Env) (s : St), evOp (AOp.build zero parts) E s = ((fillL zero (parts.map fun p => (p.1, p.2.1, p.2.2.ev E))).map fun cs => (.agg cs, s))) ∧
    (∀ e cells len parts (E : Env) (s : St), evOp (AOp.buildSlice e cells len parts) E s = (match fillL cells (parts.map fun p => (p.1, p.2.1, p.2.2.ev E)) with
    | some cs => if allOne cs then some (.slice (some (s.next, 0)) len (.ex len), s.alloc (.row { cs := cs, opn := false, ro := false, frz := 0, elem := some e })) else none
    | none => none)) ∧
    (∀ n a (E : Env) (s : St), evOp (AOp.load n a) E s = (match a.ev E with
    | .ptr (some a) => (s.loadK n a).map fun v => (v, s)
    | _ => none)) ∧
    (∀ n a x (E : Env) (s : St), evOp (AOp.store n a x) E s = (match a.ev E with
    | .ptr (some a) => if (x.ev E).cells.length = n then (s.storeN a (x.ev E).cells).map fun s' => (.tup [], s') else none
    | _ => none)) ∧
    (∀ x (E : Env) (s : St), evOp (AOp.nilCheck x) E s = (match x.ev E with
    | .ptr (some a) => some (.ptr (some a), s)
    | .fn f p q => some (.fn f p q, s)
    | .iface t v => some (.iface t v, s)
    | _ => none)) ∧
    (∀ op x y (E : Env) (s : St), evOp (AOp.bin op x y) E s = ((binOp op (x.ev E) (y.ev E)).map fun v => (v, s))) ∧
    (∀ k neg x y (E : Env) (s : St), evOp (AOp.eq k neg x y) E s = ((eqV s k (x.ev E) (y.ev E)).map fun b => (.bool (if neg then !b else b), s))) ∧
    (∀ op x (E : Env) (s : St), evOp (AOp.un op x) E s = ((unOp op (x.ev E)).map fun v => (v, s))) ∧
    (∀ k x (E : Env) (s : St), evOp (AOp.toInt k x) E s = (match x.ev E with
    | .int _ n => some (.int k (k.wrap n), s)
    | _ => none)) ∧
    (∀ x (E : Env) (s : St), evOp (AOp.sameStr x) E s = (match x.ev E with
    | .str b => some (.str b, s)
    | _ => none)) ∧
    (∀ x (E : Env) (s : St), evOp (AOp.runeStr x) E s = (match x.ev E with
    | .int _ n => some (.str (Go.Utf8.encode n).data.toList, s)
    | _ => none)) ∧
    (∀ e x (E : Env) (s : St), evOp (AOp.toBytes e x) E s = (match x.ev E with
    | .str b => if b.length ≤ 140737488355328 then some (.slice (some (s.next, 0)) b.length (.op 1), s.alloc (.row { cs := bytesVals b, opn := true, ro := false, frz := 0, clean := false, elem := some e })) else none
    | _ => none)) ∧
    (∀ x (E : Env) (s : St), evOp (AOp.fromBytes x) E s = (match x.ev E with
    | .slice none n _ => if n = 0 then some (.str [], s) else none
    | .slice (some a) n _ => match s.loadN a n with
      | some l => (optBytes l).map fun b => (.str b, s)
      | none => none
    | _ => none)) ∧
    (∀ t x (E : Env) (s : St), evOp (AOp.mkIface t x) E s = (if (x.ev E).one || !(x.ev E).one then some (.iface t (x.ev E), s) else none)) ∧
    (∀ f first captured (E : Env) (s : St), evOp (AOp.mkFn f first captured) E s = (some (.fn f (evs E first) (evs E captured), s))) ∧
    (∀  (E : Env) (s : St), evOp (AOp.mkMap) E s = (some (.map (some s.next), s.alloc (.map [] 0)))) ∧
    (∀ e zero bytes l c (E : Env) (s : St), evOp (AOp.mkSlice e zero bytes l c) E s = (match l.ev E, c.ev E with
    | .int .i64 l, .int .i64 c => if 0 ≤ l ∧ l ≤ c ∧ c * bytes ≤ 281474976710656 ∧ c ≤ 281474976710656 then
        some (.slice (some (s.next, 0)) l.toNat (.ex c.toNat), s.alloc (.row { cs := zeros zero c.toNat, opn := false, ro := false, frz := 0, elem := some e }))
      else none
    | _, _ => none)) ∧
    (∀ x lo hi (E : Env) (s : St), evOp (AOp.sliceStr x lo hi) E s = (match x.ev E with
    | .str b => match boundO (hi.map (AOpd.ev E)) b.length b.length with
      | some h => match boundO (lo.map (AOpd.ev E)) h 0 with
        | some l => some (.str ((b.drop l).take (h - l)), s)
        | none => none
      | none => none
    | _ => none)) ∧
    (∀ size x lo hi mx (E : Env) (s : St), evOp (AOp.sliceSl size x lo hi mx) E s = ((sliceV s size (x.ev E) (lo.map (AOpd.ev E)) (hi.map (AOpd.ev E)) (mx.map (AOpd.ev E))).map fun v => (v, s))) ∧
    (∀ len size x lo hi mx (E : Env) (s : St), evOp (AOp.sliceArr len size x lo hi mx) E s = (match x.ev E with
    | .ptr (some a) => (sliceV s size (.slice (some a) len (.ex len)) (lo.map (AOpd.ev E)) (hi.map (AOpd.ev E)) (mx.map (AOpd.ev E))).map fun v => (v, s)
    | _ => none)) ∧
    (∀ n x (E : Env) (s : St), evOp (AOp.addOff n x) E s = (match x.ev E with
    | .ptr (some a) => some (.ptr (some (a.1, a.2 + n)), s)
    | _ => none)) ∧
    (∀ off n x (E : Env) (s : St), evOp (AOp.fieldOf off n x) E s = (match x.ev E with
    | .agg cs => (partN n cs off).map fun v => (v, s)
    | _ => none)) ∧
    (∀ size x i (E : Env) (s : St), evOp (AOp.idxSl size x i) E s = (match x.ev E, i.ev E with
    | .slice (some a) len _, .int _ i => if 0 ≤ i ∧ i < len then some (.ptr (some (a.1, a.2 + i.toNat * size)), s) else none
    | _, _ => none)) ∧
    (∀ len size x i (E : Env) (s : St), evOp (AOp.idxArr len size x i) E s = (match x.ev E, i.ev E with
    | .ptr (some a), .int _ i => if 0 ≤ i ∧ i < len then some (.ptr (some (a.1, a.2 + i.toNat * size)), s) else none
    | _, _ => none)) ∧
    (∀ len size n x i (E : Env) (s : St), evOp (AOp.idxAgg len size n x i) E s = (match x.ev E, i.ev E with
    | .agg cs, .int _ i => if 0 ≤ i ∧ i < len then (partN n cs (i.toNat * size)).map fun v => (v, s) else none
    | _, _ => none)) ∧
    (∀ x i (E : Env) (s : St), evOp (AOp.idxStr x i) E s = (match x.ev E, i.ev E with
    | .str b, .int _ i => if 0 ≤ i then (b[i.toNat]?).map fun c => (.int .u8 c.toNat, s) else none
    | _, _ => none)) ∧
    (∀ kt zero ok x i (E : Env) (s : St), evOp (AOp.lookup kt zero ok x i) E s = ((lookupV s kt zero ok (x.ev E) (i.ev E)).map fun v => (v, s))) ∧
    (∀ kt m k x (E : Env) (s : St), evOp (AOp.mapSet kt m k x) E s = ((mapSetV s kt (m.ev E) (k.ev E) (x.ev E)).map fun s' => (.tup [], s'))) ∧
    (∀ x i (E : Env) (s : St), evOp (AOp.extract x i) E s = (match x.ev E with
    | .tup vs => (vs[i]?).map fun v => (v, s)
    | _ => none)) ∧
    (∀ e size bytes x y (E : Env) (s : St), evOp (AOp.append e size bytes x y) E s = (match srcCells s size (y.ev E) with
    | some (n, news) => appendV s e size bytes (x.ev E) n news
    | none => none)) ∧
    (∀ size d x (E : Env) (s : St), evOp (AOp.copy size d x) E s = (copyV s size (d.ev E) (x.ev E))) ∧
    (∀ k x (E : Env) (s : St), evOp (AOp.len k x) E s = (match k with
    | .str => match x.ev E with
      | .str b => some (.int .i64 b.length, s)
      | _ => none
    | .slice => match x.ev E with
      | .slice _ n _ => some (.int .i64 n, s)
      | _ => none
    | .arr n => some (.int .i64 n, s)
    | .map => match x.ev E with
      | .map none => some (.int .i64 0, s)
      | .map (some r) => match s.heap.get r with
        | some (.map es _) => some (.int .i64 es.length, s)
        | _ => none
      | _ => none)) ∧
    (∀ x (E : Env) (s : St), evOp (AOp.cap x) E s = (match x.ev E with
    | .slice _ _ (.ex c) => some (.int .i64 c, s)
    | _ => none)) ∧
    (∀ mx xs (E : Env) (s : St), evOp (AOp.mm mx xs) E s = (match evs E xs with
    | v :: r => (minmax mx v r).map fun v => (v, s)
    | [] => none)) ∧
    (∀ x c (E : Env) (s : St), evOp (AOp.idxByte x c) E s = (match x.ev E, c.ev E with
    | .str b, .int .u8 c => some (.int .i64 (findByte b (UInt8.ofNat c.toNat) 0), s)
    | _, _ => none)) ∧
    (∀ x (E : Env) (s : St), evOp (AOp.toUnsafe x) E s = (match x.ev E with
    | .ptr none => some (.ptr none, s)
    | .ptr (some a) => match s.row? a.1 with
      | some r => if a.2 < r.cs.length then some (.ptr (some a), s) else none
      | none => none
    | _ => none)) ∧
    (∀ u size x (E : Env) (s : St), evOp (AOp.fromUnsafe u size x) E s = (match x.ev E with
    | .ptr none => some (.ptr none, s)
    | .ptr (some a) => match s.row? a.1 with
      | some r => if a.2 = 0 ∧ r.elem = some u ∧ size ≤ r.cs.length then some (.ptr (some a), s) else none
      | none => none
    | _ => none)) ∧
    (∀ x (E : Env) (s : St), evOp (AOp.sliceData x) E s = (match x.ev E with
    | .slice none _ _ => some (.ptr none, s)
    | .slice (some a) n c => if 0 < n ∧ c ≠ .ex 0 then some (.ptr (some a), s) else none
    | _ => none)) ∧
    (∀ u x n (E : Env) (s : St), evOp (AOp.unsafeStr u x n) E s = (unsafeStrV s u (x.ev E) (n.ev E))) ∧
    (∀ e n (E : Env) (s : St), evOp (AOp.noZero e n) E s = (match n.ev E with
    | .int .i64 n => if 0 ≤ n ∧ n ≤ 140737488355328 then
        some (.slice (some (s.next, 0)) n.toNat (.op 1), s.alloc (.row { cs := List.replicate n.toNat .undef, opn := true, ro := false, frz := 0, elem := some e }))
      else none
    | _ => none)) ∧
    (∀ x (E : Env) (s : St), evOp (AOp.rangeStr x) E s = (match x.ev E with
    | .str b => some (.ptr (some (s.next, 0)), s.alloc (.sIter b 0))
    | _ => none)) ∧
    (∀ x (E : Env) (s : St), evOp (AOp.rangeMap x) E s = (rangeMapV s (x.ev E))) ∧
    (∀ x (E : Env) (s : St), evOp (AOp.nextStr x) E s = (nextStrV s (x.ev E))) ∧
    (∀ x (E : Env) (s : St), evOp (AOp.entry x) E s = ((entryV s (x.ev E)).map fun v => (v, s))) ∧
    (∀ zero x (E : Env) (s : St), evOp (AOp.clearSl zero x) E s = (match x.ev E with
    | .slice none _ _ => some (.tup [], s)
    | .slice (some a) n _ => if n = 0 then some (.tup [], s) else (s.storeN a (zeros zero n)).map fun s' => (.tup [], s')
    | _ => none)) ∧
    (∀ e zero size bytes x y (E : Env) (s : St), evOp (AOp.appendMk e zero size bytes x y) E s = (match y.ev E with
    | .int .i64 n => if 0 ≤ n ∧ n ≤ 140737488355328 ∧ n * bytes ≤ 140737488355328 then appendV s e size bytes (x.ev E) n.toNat (zeros zero n.toNat) else none
    | _ => none)) ∧
    (∀ x c (E : Env) (s : St), evOp (AOp.cntByte x c) E s = (match x.ev E, c.ev E with
    | .str b, .int .u8 c => some (.int .i64 (cntB (UInt8.ofNat c.toNat) b), s)
    | _, _ => none)) ∧
    (∀ x y (E : Env) (s : St), evOp (AOp.cmpStr x y) E s = (match x.ev E, y.ev E with
    | .str a, .str b => some (.int .i64 (cmpB a b), s)
    | _, _ => none)) ∧
    (∀ (E : Env) (s : St), evOp .fail E s = none) :=
  ⟨fun _ _ _ => rfl, fun _ _ _ _ _ => rfl, fun _ _ _ _ => rfl, fun _ _ _ _ => rfl, fun _ _ _ _ => rfl, fun _ _ _ _ _ _ => rfl, fun _ _ _ _ => rfl, fun _ _ _ _ _ => rfl, fun _ _ _ => rfl, fun _ _ _ _ _ => rfl, fun _ _ _ _ _ _ => rfl, fun _ _ _ _ => rfl, fun _ _ _ _ => rfl, fun _ _ _ => rfl, fun _ _ _ => rfl, fun _ _ _ _ => rfl, fun _ _ _ => rfl, fun _ _ _ _ => rfl, fun _ _ _ _ _ => rfl, fun _ _ => rfl, fun _ _ _ _ _ _ _ => rfl, fun _ _ _ _ _ => rfl, fun _ _ _ _ _ _ _ => rfl, fun _ _ _ _ _ _ _ _ => rfl, fun _ _ _ _ => rfl, fun _ _ _ _ _ => rfl, fun _ _ _ _ _ => rfl, fun _ _ _ _ _ _ => rfl, fun _ _ _ _ _ _ _ => rfl, fun _ _ _ _ => rfl, fun _ _ _ _ _ _ _ => rfl, fun _ _ _ _ _ _ => rfl, fun _ _ _ _ => rfl, fun _ _ _ _ _ _ _ => rfl, fun _ _ _ _ _ => rfl, fun _ _ _ _ => rfl, fun _ _ _ => rfl, fun _ _ _ _ => rfl, fun _ _ _ _ => rfl, fun _ _ _ => rfl, fun _ _ _ _ _ => rfl, fun _ _ _ => rfl, fun _ _ _ _ _ => rfl, fun _ _ _ _ => rfl, fun _ _ _ => rfl, fun _ _ _ => rfl, fun _ _ _ => rfl, fun _ _ _ => rfl, fun _ _ _ _ => rfl, fun _ _ _ _ _ _ _ _ => rfl, fun _ _ _ _ => rfl, fun _ _ _ _ => rfl, fun _ _ => rfl⟩

/-- operators and comparisons -/
theorem opR : (∀ op k a k' b, Am.binOp op (.int k a) (.int k' b) = match op with
      | .shl | .shr => shiftOp op k a b
      | _ => if k = k' then intOp op k a b else none) ∧ (∀ op a b, Am.binOp op (.str a) (.str b) = strOp op a b) ∧
    (∀ a b, Am.binOp .eql (.bool a) (.bool b) = some (.bool (a == b))) ∧ (∀ a b, Am.binOp .neq (.bool a) (.bool b) = some (.bool !(a == b))) ∧
    (∀ k x y, intOp .add k x y = some (.int k (k.wrap (x + y)))) ∧ (∀ k x y, intOp .sub k x y = some (.int k (k.wrap (x - y)))) ∧ (∀ k x y, intOp .mul k x y = some (.int k (k.wrap (x * y)))) ∧
    (∀ k x y, intOp .quo k x y = if y = 0 then none else some (.int k (k.wrap (x.tdiv y)))) ∧ (∀ k x y, intOp .rem k x y = if y = 0 then none else some (.int k (x.tmod y))) ∧
    (∀ k x y, intOp .lss k x y = some (.bool (decide (x < y)))) ∧ (∀ k x y, intOp .leq k x y = some (.bool (decide (x ≤ y)))) ∧ (∀ k x y, intOp .gtr k x y = some (.bool (decide (y < x)))) ∧ (∀ k x y, intOp .geq k x y = some (.bool (decide (y ≤ x)))) ∧
    (∀ x y : List UInt8, x.length + y.length ≤ 9223372036854775807 → strOp .add x y = some (.str (x ++ y))) ∧ (∀ x y, strOp .lss x y = some (.bool (Go.Op.bytesLess x y))) ∧
    (∀ x y, strOp .gtr x y = some (.bool !(Go.Op.bytesLess x y || x == y))) ∧ (∀ x y, strOp .leq x y = some (.bool (Go.Op.bytesLess x y || x == y))) ∧ (∀ x y, strOp .geq x y = some (.bool !(Go.Op.bytesLess x y))) ∧
    (∀ k n, Am.unOp .neg (.int k n) = some (.int k (k.wrap (0 - n)))) ∧ (∀ b, Am.unOp .not (.bool b) = some (.bool !b)) ∧
    (∀ s k x y, eqV s (.leaf k) x y = eqLeaf s k x y) ∧ (∀ s n ls x y, eqV s (.cells n ls) x y = eqAgg s n ls x y) ∧ (∀ s k x y, eqV s (.nilc k) x y = eqNil k x y) ∧
    (∀ s a b, eqLeaf s .bool (.bool a) (.bool b) = some (a == b)) ∧ (∀ s k a k' b, eqLeaf s .int (.int k a) (.int k' b) = if k = k' then some (a == b) else none) ∧ (∀ s a b, eqLeaf s .str (.str a) (.str b) = some (a == b)) ∧
    (∀ s b, eqLeaf s .ptr (.ptr none) (.ptr b) = some b.isNone) ∧ (∀ s a, eqLeaf s .ptr (.ptr (some a)) (.ptr none) = some false) ∧
    (∀ s n ls a b, eqAgg s n ls (.agg a) (.agg b) = if a.length = n ∧ b.length = n then eqCells s a b ls else none) ∧ (∀ s xs ys, eqCells s xs ys [] = some true) ∧
    (∀ s xs ys o k r, eqCells s xs ys ((o, k) :: r) = match xs[o]?, ys[o]? with
      | some a, some b => match eqLeaf s k a b with
        | some true => eqCells s xs ys r
        | some false => some false
        | none => none
      | _, _ => none) ∧
    (∀ n c b m e, eqNil .slice (.slice none n c) (.slice b m e) = some b.isNone) ∧ (∀ a n c m e, eqNil .slice (.slice (some a) n c) (.slice none m e) = some false) ∧ (∀ b, eqNil .map (.map none) (.map b) = some b.isNone) ∧ (∀ a, eqNil .map (.map (some a)) (.map none) = some false) ∧
    (eqNil .func .nilFn .nilFn = some true) ∧ (∀ f p q, eqNil .func .nilFn (.fn f p q) = some false) ∧ (∀ f p q, eqNil .func (.fn f p q) .nilFn = some false) ∧
    (eqNil .iface .nilIface .nilIface = some true) ∧ (∀ t v, eqNil .iface .nilIface (.iface t v) = some false) ∧ (∀ t v, eqNil .iface (.iface t v) .nilIface = some false) := by
  refine ⟨?_, fun _ _ _ => rfl, fun _ _ => rfl, fun _ _ => rfl, fun _ _ _ => rfl, fun _ _ _ => rfl, fun _ _ _ => rfl, fun _ _ _ => rfl, fun _ _ _ => rfl, fun _ _ _ => rfl, fun _ _ _ => rfl, fun _ _ _ => rfl, fun _ _ _ => rfl, fun _ _ h => by simp only [strOp, if_pos h], fun _ _ => rfl, fun _ _ => rfl, fun _ _ => rfl, fun _ _ => rfl, fun _ _ => rfl, fun _ => rfl, fun _ _ _ _ => rfl, fun _ _ _ _ _ => rfl, fun _ _ _ _ => rfl, fun _ _ _ => rfl, fun _ _ _ _ _ => rfl, fun _ _ _ => rfl, fun _ _ => rfl, fun _ _ => rfl, fun _ _ _ _ _ => rfl, fun _ _ _ => rfl, fun _ _ _ _ _ _ => rfl, fun _ _ _ _ _ => rfl, fun _ _ _ _ _ => rfl, fun _ => rfl, fun _ => rfl, rfl, fun _ _ _ => rfl, fun _ _ _ => rfl, rfl, fun _ _ => rfl, fun _ _ => rfl⟩
  intro op k a k' b; cases op <;> rfl

/-- cells -/
theorem celR : (∀ (s : St) a, s.loadK none a = s.load1 a) ∧ (∀ (s : St) n a, s.loadK (some n) a = (s.loadN a n).map .agg) ∧ (∀ (s : St) (a : Nat × Nat), s.load1 a = (s.row? a.1).bind fun r => r.cs[a.2]?) ∧
    (∀ (s : St) (a : Nat × Nat) n, s.loadN a n = (s.row? a.1).bind fun r => if a.2 + n ≤ r.cs.length then some (seg r.cs a.2 n) else none) ∧
    (∀ (s : St) (a : Nat × Nat) vs, s.storeN a vs = (s.row? a.1).bind fun r => if s.floor ≤ a.1 ∧ r.ro = false ∧ r.frz ≤ a.2 ∧ a.2 + vs.length ≤ r.cs.length ∧ vs.all Val.one = true then some (s.put a.1 (.row { r with cs := splice r.cs a.2 vs })) else none) ∧
    (∀ l o n, seg l o n = (l.drop o).take n) ∧ (∀ l o vs, splice l o vs = l.take o ++ vs ++ l.drop (o + vs.length)) ∧ (∀ cs, Val.cells (.agg cs) = cs) ∧ (∀ b, Val.cells (.bool b) = [.bool b]) ∧ (∀ k n, Val.cells (.int k n) = [.int k n]) ∧ (∀ b, Val.cells (.str b) = [.str b]) ∧
    (∀ a, Val.cells (.ptr a) = [.ptr a]) ∧ (∀ a n c, Val.cells (.slice a n c) = [.slice a n c]) ∧ (∀ a, Val.cells (.map a) = [.map a]) ∧ (∀ f p q, Val.cells (.fn f p q) = [.fn f p q]) ∧ (Val.cells .nilFn = [.nilFn]) ∧ (Val.cells .nilIface = [.nilIface]) ∧ (∀ t v, Val.cells (.iface t v) = [.iface t v]) ∧
    (∀ b, Val.one (.bool b) = true) ∧ (∀ k n, Val.one (.int k n) = true) ∧ (∀ b, Val.one (.str b) = true) ∧ (∀ b, Val.one (.ptr b) = true) ∧ (∀ a n c, Val.one (.slice a n c) = true) ∧ (∀ a, Val.one (.map a) = true) ∧ (∀ f p q, Val.one (.fn f p q) = true) ∧ (Val.one .nilFn = true) ∧ (Val.one .nilIface = true) ∧ (∀ t v, Val.one (.iface t v) = true) ∧
    (∀ l, allOne l = l.all Val.one) ∧ (∀ cs, fillL cs [] = some cs) ∧ (∀ cs off size v rest, fillL cs ((off, size, v) :: rest) = if v.known = true ∧ v.cells.length = size ∧ off + size ≤ cs.length then fillL (splice cs off v.cells) rest else none) ∧
    (∀ b, Val.known (.bool b) = true) ∧ (∀ k n, Val.known (.int k n) = true) ∧ (∀ b, Val.known (.str b) = true) ∧ (∀ b, Val.known (.ptr b) = true) ∧ (∀ a n c, Val.known (.slice a n c) = true) ∧ (∀ a, Val.known (.map a) = true) ∧ (∀ f p q, Val.known (.fn f p q) = true) ∧ (Val.known .nilFn = true) ∧ (Val.known .nilIface = true) ∧ (∀ t v, Val.known (.iface t v) = true) ∧ (∀ cs, Val.known (.agg cs) = true) ∧
    (∀ cs off, partN none cs off = cs[off]?) ∧ (∀ n cs off, partN (some n) cs off = if off + n ≤ cs.length then some (.agg (seg cs off n)) else none) ∧ (∀ x y d, boundO (some x) y d = bound x y) ∧ (∀ y d, boundO none y d = some d) ∧ (∀ k i y, bound (.int k i) y = if 0 ≤ i ∧ i ≤ y then some i.toNat else none) ∧
    (∀ E s, chkOk E s [] = true) ∧ (∀ E, wanted E none = .yes) ∧ (∀ v, resVal [v] = v) ∧ (resVal [] = .tup []) ∧ (∀ a b r, resVal (a :: b :: r) = .tup (a :: b :: r)) ∧
    (∀ E s, resVals E s [] = some []) ∧ (∀ E s t r, resVals E s (.tmp t :: r) = (resVals E s r).map (E.get t :: ·)) := by
  refine ⟨fun _ _ => rfl, fun _ _ _ => rfl, load1_eq, ?_, ?_, fun _ _ _ => rfl, fun _ _ _ => rfl, ?_⟩
  · intro s a n; unfold St.loadN; cases s.row? a.1 <;> rfl
  · intro s a vs; unfold St.storeN; cases s.row? a.1 <;> rfl
  · simp [Val.cells, Val.one, Val.known, allOne, fillL, partN, boundO, bound, chkOk, wanted, resVal, resVals]

/-- lists, options, conditions -/
theorem plR : (∀ {α : Type} (a : α) l, (a :: l)[0]? = some a) ∧ (∀ {α : Type} (a : α) (l : List α) n, (a :: l)[n + 1]? = l[n]?) ∧ (∀ {α : Type} (n : Nat), ([] : List α)[n]? = none) ∧ (∀ {α : Type} (a d : α), (some a).getD d = a) ∧ (∀ {α : Type} (d : α), (none : Option α).getD d = d) ∧
    (∀ {α β : Type} (f : α → β) a, (some a).map f = some (f a)) ∧ (∀ {α β : Type} (f : α → β), (none : Option α).map f = none) ∧ (∀ {α β : Type} (f : α → Option β) a, (some a).bind f = f a) ∧ (∀ {α β : Type} (f : α → Option β), (none : Option α).bind f = none) ∧
    (∀ {α : Type} (a : α) l, (a :: l).length = l.length + 1) ∧ (∀ {α : Type}, ([] : List α).length = 0) ∧ (∀ {α β : Type} (f : α → β), [].map f = []) ∧ (∀ {α β : Type} (f : α → β) a l, (a :: l).map f = f a :: l.map f) ∧
    (∀ {α : Type} (p : α → Bool), [].all p = true) ∧ (∀ {α : Type} (p : α → Bool) a l, (a :: l).all p = (p a && l.all p)) ∧ (∀ {α : Type} (l : List α), l.drop 0 = l) ∧ (∀ {α : Type} (l : List α), l.take 0 = []) ∧ (∀ {α : Type} (n : Nat), ([] : List α).drop n = []) ∧ (∀ {α : Type} (n : Nat), ([] : List α).take n = []) ∧
    (∀ {α : Type} (a : α) l n, (a :: l).drop (n + 1) = l.drop n) ∧ (∀ {α : Type} (a : α) l n, (a :: l).take (n + 1) = a :: l.take n) ∧ (∀ {α : Type} (l : List α), [] ++ l = l) ∧ (∀ {α : Type} (a : α) l m, (a :: l) ++ m = a :: (l ++ m)) ∧ (∀ {α : Type} (l : List α), l ++ [] = l) ∧
    (∀ n : Nat, 0 + n = n) ∧ (∀ n : Nat, n + 0 = n) ∧ (∀ p, (p ∧ True) = p) ∧ (∀ p, (True ∧ p) = p) ∧ (∀ p, (p ∧ p) = p) ∧ (∀ b, (b && true) = b) ∧ (∀ b, (true && b) = b) ∧ (∀ b, (false && b) = false) ∧ (∀ b, (b && false) = false) ∧ ((!true) = false) ∧ ((!false) = true) ∧ (∀ n : Nat, (n ≤ n) = True) ∧
    (∀ {α : Type} (a : α), (a = a) = True) ∧ (((false : Bool) = true) = False) ∧ (((true : Bool) = false) = False) ∧ (decide True = true) ∧ (decide False = false) ∧ ((true == true) = true) ∧ ((false == false) = true) ∧ ((true == false) = false) ∧ ((false == true) = false) := by
  simp

attribute [irreducible] Ops seqQ blockQ loopQ panX callK Grd
end Am
