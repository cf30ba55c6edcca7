/- Each operation of the abstract machine stands for the model's: look-ups and stores in maps; all together. -/
import Derived.Test.YtbmfehgkbgdajaaGreatDoorAmOp11
set_option linter.all false
namespace Am
open Go (IntKind BinOp UnOp FuncId TypeId Program Value World Addr Obj Operand Oper Op Sem Act)

variable {W0 : Ctx} {φ : Phi} {s : St} {w w' : World} {P : Program}

theorem R.mapAt (h : R W0 φ s w) {r : Nat} {c : Nat} {es : List MEnt} {clock : Nat} (hb : BRel φ r c) (hg : s.heap.get r = some (.map es clock)) :
    ∃ es', φ r = .at c ((match φ r with | .at _ z => z | _ => 0)) ∧ w.heap[c]? = some (.map es' clock) ∧ MRel φ es es'.toList := by
  obtain ⟨cc, sz, hcc⟩ := h.at_of_get hg (by intro hu; unfold BRel at hb; rw [hu] at hb; exact hb)
  unfold BRel at hb; rw [hcc] at hb
  have hb : c = cc := hb
  subst hb
  obtain ⟨es', hw1, hm⟩ := h.blk r c sz _ hcc hg
  exact ⟨es', by rw [hcc], hw1, hm⟩

theorem firm_unique (h : R W0 φ s w) {v : Val} (hf : firm s v = true) {a b : Value} (ha : VRel φ v a) (hb : VRel φ v b) : a = b ∧ ∀ n, Go.Instr.sameBits n a b = true := by
  unfold firm at hf
  split at hf
  · obtain rfl : a = _ := ha; obtain rfl : b = _ := hb; exact ⟨rfl, fun n => by cases n <;> simp [Go.Instr.sameBits]⟩
  · obtain rfl : a = _ := ha; obtain rfl : b = _ := hb; exact ⟨rfl, fun n => by cases n <;> simp [Go.Instr.sameBits]⟩
  · obtain rfl : a = _ := ha; obtain rfl : b = _ := hb; exact ⟨rfl, fun n => by cases n <;> simp [Go.Instr.sameBits, Go.beq_toListBytes]⟩
  · obtain rfl : a = _ := ha; obtain rfl : b = _ := hb; exact ⟨rfl, fun n => by cases n <;> simp [Go.Instr.sameBits]⟩
  · rename_i ad
    obtain ⟨a', rfl, h1⟩ := ha
    obtain ⟨b', rfl, h2⟩ := hb
    obtain ⟨r, hr⟩ := Option.isSome_iff_exists.1 hf
    obtain ⟨c, sz, hc⟩ := h.at_of_get (row?_some hr) h1.notUnk
    rw [h1.eq hc, h2.eq hc]
    exact ⟨rfl, fun n => by cases n <;> simp [Go.Instr.sameBits]⟩
  · cases hf

theorem firms_unique (h : R W0 φ s w) : ∀ {vs : List Val}, vs.all (firm s) = true → ∀ {a b : List Value}, VsRel φ vs a → VsRel φ vs b → a = b ∧ ∀ n, (a.zip b).all (fun (x, y) => Go.Instr.sameBits n x y) = true
  | [], _, a, b, ha, hb => by rw [show a = [] from ha, show b = [] from hb]; simp
  | v :: vs, hf, a, b, ⟨x, l, e1, hx, hl⟩, ⟨y, m, e2, hy, hm⟩ => by
    simp only [List.all_cons, Bool.and_eq_true] at hf
    have h1 := firm_unique h hf.1 hx hy
    have h2 := firms_unique h hf.2 hl hm
    subst e1; subst e2
    refine ⟨by rw [h1.1, h2.1], fun n => ?_⟩
    simp only [List.zip_cons_cons, List.all_cons, h1.2 n, h2.2 n, Bool.and_self]

theorem sameCell_eq {a b : Val} (h : sameCell a b = true) : a = b := by
  unfold sameCell at h
  split at h <;> simp at h
  · rw [h]
  · rw [h.1, h.2]
  · rw [h]
  · rw [h]

theorem sameCells_eq : ∀ {a b : List Val}, sameCells a b = true → a = b
  | [], [], _ => rfl
  | a :: r, b :: r', h => by
    simp only [sameCells, Bool.and_eq_true] at h
    rw [sameCell_eq h.1, sameCells_eq h.2]
  | [], _ :: _, h => by simp [sameCells] at h
  | _ :: _, [], h => by simp [sameCells] at h

theorem sameKey_eq {a b : Val} (h : sameKey a b = true) : a = b := by
  unfold sameKey at h
  split at h
  · rw [sameCells_eq h]
  · exact sameCell_eq h

theorem key_unique (h : R W0 φ s w) {kt : EqK} {k : Val} (hk : keyB s kt k = true) {a b : Value} (ha : VRel φ k a) (hb : VRel φ k b) : Go.Instr.sameBits 10000 a b = true := by
  unfold keyB at hk
  split at hk
  · exact (firm_unique h rfl ha hb).2 10000
  · exact (firm_unique h rfl ha hb).2 10000
  · exact (firm_unique h rfl ha hb).2 10000
  · simp only [Bool.and_eq_true] at hk
    obtain ⟨X, rfl, hX⟩ := ha
    obtain ⟨Y, rfl, hY⟩ := hb
    have := firms_unique h hk.2 hX hY
    have hl : X.size = Y.size := by have := congrArg List.length this.1; simpa using this
    show (X.size == Y.size && _) = true
    rw [hl]
    simp only [beq_self_eq_true, Bool.true_and]
    exact this.2 9999
  · cases hk

theorem MRel.append : ∀ {l : List MEnt} {l' : List Go.MapEntry} {r : List MEnt} {r' : List Go.MapEntry}, MRel φ l l' → MRel φ r r' → MRel φ (l ++ r) (l' ++ r')
  | [], l', r, r', h, h' => by rw [show l' = [] from h]; exact h'
  | a :: l, _, r, r', ⟨b, s, e, h1, h2, h3, h4⟩, h' => ⟨b, s ++ r', by rw [e]; rfl, h1, h2, h3, MRel.append h4 h'⟩

theorem MRel.modify {k x : Val} {k' x' : Value} (hk : VRel φ k k') (hx : VRel φ x x') : ∀ {l : List MEnt} {l' : List Go.MapEntry} (i : Nat), MRel φ l l' →
    MRel φ (l.modify i fun e => { e with key := k, val := x }) (l'.modify i fun e => { e with key := k', val := x' })
  | [], l', i, h => by rw [show l' = [] from h]; simp [MRel]
  | a :: l, _, 0, ⟨b, s, e, h1, h2, h3, h4⟩ => by subst e; exact ⟨{ b with key := k', val := x' }, s, by simp, hk, hx, h3, h4⟩
  | a :: l, _, i + 1, ⟨b, s, e, h1, h2, h3, h4⟩ => by
    subst e
    rw [List.modify_succ_cons, List.modify_succ_cons]
    exact ⟨b, _, rfl, h1, h2, h3, MRel.modify hk hx i h4⟩

theorem zeroV_sound {t : TypeId} {z : Val} (h : zeroV P t = some z) : ∃ zv, (∀ w : World, (Go.zeroValue t).run P w = .ok zv w) ∧ VRel φ z zv := by
  unfold zeroV at h
  split at h
  case h_2 => cases h
  rename_i i hi
  split at h
  case h_2 => cases h
  rename_i zv hz
  exact ⟨zv, fun w => run_zero hi hz w, valOf_sound h⟩

theorem lookup_sound (h : R W0 φ s w) {t kT e : TypeId} (ht : P.underlying t = some (.map kT e)) {kt : EqK} (hk : keyKind P kT = some kt) {z : Val} (hz : zeroV P e = some z) {m k v : Val} {m' k' : Value} {ok : Bool}
    (hm : VRel φ m m') (hkv : VRel φ k k') (he : lookupV s kt z ok m k = some v) : ∃ v', (Go.Instr.lookup t m' k' ok).run P w = .ok v' w ∧ VRel φ v v' := by
  obtain ⟨zv, hz1, hz2⟩ := zeroV_sound (φ := φ) hz
  unfold lookupV at he
  split at he
  case isFalse => cases he
  rename_i hkb
  have hck := fun em => checkKey_sound (P := P) (w := w) hk hkb hkv em 9999 (by decide)
  have hT := keyKind_sound hk
  have emp : ∀ (v0 : Val) (v1 : Value) (b : Bool), VRel φ v0 v1 → VRel φ (if ok then .tup [v0, .bool b] else v0) (if ok then .tuple #[v1, .bool b] else v1) := by
    intro v0 v1 b hv
    cases ok
    · exact hv
    · exact ⟨_, rfl, _, _, rfl, hv, _, _, rfl, rfl, rfl⟩
  split at he
  · injection he with he; subst he
    obtain rfl : m' = _ := hm
    refine ⟨_, ?_, emp z zv false hz2⟩
    have hf : (Go.Instr.findKey kT k' []).run P w = .ok none w := by
      obtain ⟨r', h1, h2⟩ := findKey_sound (P := P) h hk hkv (es := []) (es' := []) rfl (r := none) rfl
      rw [h1, show r' = none from h2]
    simp only [Go.Instr.lookup, Go.Sem.run_bind, run_under ht, Go.Result.andThen_ok, Go.Sem.run_pure]
    rw [show (Go.Instr.checkKey (#[] : Array Go.MapEntry).isEmpty 10000 kT k').run P w = .ok () w from hck _]
    simp only [Go.Result.andThen_ok]
    rw [show (Go.Instr.findKey kT k' (#[] : Array Go.MapEntry).toList).run P w = .ok none w from hf]
    simp [hz1]
  · rename_i r
    split at he
    case h_2 => cases he
    rename_i es clock hg
    obtain ⟨c, rfl, hb⟩ := hm
    obtain ⟨es', _, hw, hmr⟩ := h.mapAt hb hg
    have hgo := run_getObj_map (P := P) hw
    split at he
    · rename_i j ent hf
      injection he with he; subst he
      obtain ⟨r', h1, h2⟩ := findKey_sound (P := P) h hk hkv hmr hf
      obtain ⟨v', rfl, hv'⟩ := h2
      refine ⟨_, ?_, emp _ v' true hv'⟩
      simp only [Go.Instr.lookup, Go.Sem.run_bind, run_under ht, Go.Result.andThen_ok, hgo, Go.Sem.run_pure]
      rw [show (Go.Instr.checkKey es'.isEmpty 10000 kT k').run P w = .ok () w from hck _]
      simp only [Go.Result.andThen_ok, h1]
      simp
    · rename_i hf
      injection he with he; subst he
      obtain ⟨r', h1, h2⟩ := findKey_sound (P := P) h hk hkv hmr hf
      obtain rfl : r' = none := h2
      refine ⟨_, ?_, emp z zv false hz2⟩
      simp only [Go.Instr.lookup, Go.Sem.run_bind, run_under ht, Go.Result.andThen_ok, hgo, Go.Sem.run_pure]
      rw [show (Go.Instr.checkKey es'.isEmpty 10000 kT k').run P w = .ok () w from hck _]
      simp only [Go.Result.andThen_ok, h1]
      simp [hz1]
    · cases he
  · cases he

theorem mapSet_sound (h : R W0 φ s w) {t kT e : TypeId} (ht : P.underlying t = some (.map kT e)) {kt : EqK} (hk : keyKind P kT = some kt) {m k x : Val} {m' k' x' : Value} {s' : St}
    (hm : VRel φ m m') (hkv : VRel φ k k') (hx : VRel φ x x') (he : mapSetV s kt m k x = some s') : ∃ w', (Go.Instr.mapUpdate t m' k' x').run P w = .ok () w' ∧ Post W0 φ s w φ s' w' := by
  unfold mapSetV at he
  split at he
  case isFalse => cases he
  rename_i hkb
  have hck := fun em => checkKey_sound (P := P) (w := w) hk hkb hkv em 9999 (by decide)
  split at he
  case h_2 => cases he
  rename_i r
  split at he
  case h_2 => cases he
  rename_i es clock hg
  split at he
  case isFalse => cases he
  rename_i hfl
  obtain ⟨c, rfl, hb⟩ := hm
  obtain ⟨es', hat, hw, hmr⟩ := h.mapAt hb hg
  have hgo := run_getObj_map (P := P) hw
  have hlt : c < w.heap.size := (Array.getElem?_eq_some_iff.1 hw).1
  have setO : ∀ o : Obj, (Go.setObj c o).run P w = .ok () { w with heap := w.heap.setIfInBounds c o } := by
    intro o; simp [Go.setObj, Sem.run, hw]
  split at he
  · rename_i i ent hf
    split at he
    case isFalse => cases he
    rename_i hsk
    injection he with he; subst he
    obtain ⟨r', h1, h2⟩ := findKey_sound (P := P) h hk hkv hmr hf
    obtain ⟨v', rfl, hv'⟩ := h2
    obtain ⟨_, hgi, _⟩ := mapFind_get hf
    simp only [Nat.sub_zero] at hgi
    obtain ⟨e', hg', hke, _, _⟩ := hmr.get hgi
    have hkey : ent.key = k := sameKey_eq hsk
    rw [hkey] at hke
    have hsb : Go.Instr.sameBits 10000 e'.key k' = true := key_unique h hkb hke hkv
    have hgi' : es'[i]? = some e' := by simpa using hg'
    refine ⟨{ w with heap := w.heap.setIfInBounds c (.map (es'.modify i fun e => { e with key := k', val := x' }) clock) }, ?_, ?_⟩
    · simp only [Go.Instr.mapUpdate, Go.Sem.run_bind, run_under ht, Go.Result.andThen_ok, hgo]
      rw [show (Go.Instr.checkKey false 10000 kT k').run P w = .ok () w from hck _]
      simp only [Go.Result.andThen_ok, h1, Go.Sem.run_bind, hgi', Option.map_some, Option.getD_some, Go.Instr.keyThatStays, hsb, if_true, Go.Sem.run_pure, setO]
    · refine h.put hat hg rfl hfl rfl rfl rfl rfl ⟨_, by rw [Array.getElem?_setIfInBounds_self_of_lt hlt], ?_⟩
      rw [Array.toList_modify]
      exact hmr.modify hkv hx i
  · rename_i hf
    injection he with he; subst he
    obtain ⟨r', h1, h2⟩ := findKey_sound (P := P) h hk hkv hmr hf
    obtain rfl : r' = none := h2
    refine ⟨{ w with heap := w.heap.setIfInBounds c (.map (es'.push { key := k', val := x', born := clock }) (clock + 1)) }, ?_, ?_⟩
    · simp only [Go.Instr.mapUpdate, Go.Sem.run_bind, run_under ht, Go.Result.andThen_ok, hgo]
      rw [show (Go.Instr.checkKey false 10000 kT k').run P w = .ok () w from hck _]
      simp only [Go.Result.andThen_ok, h1, setO]
    · refine h.put hat hg rfl hfl rfl rfl rfl rfl ⟨_, by rw [Array.getElem?_setIfInBounds_self_of_lt hlt], ?_⟩
      rw [Array.toList_push]
      exact hmr.append ⟨_, [], rfl, hkv, hx, rfl, rfl⟩
  · cases he

section ops
variable {E : Env} {a : Act} {o : Oper} {v : Val} {s' : St}

theorem sound_lookup (h : R W0 φ s w) (hE : ERel φ E a.tmps) (hG : GRel φ P.globals.size) {t : TypeId} {x i : Operand} {ok : Bool} (hop : o.op = .lookup t x i ok) {o' : AOp} (hc : compOp P o = some o')
    (he : evOp o' E s = some (v, s')) : Done P W0 φ s w ((Go.execOp a.eval o).run P w) v s' := by
  simp only [compOp, hop] at hc
  split at hc
  case h_2 => cases hc
  rename_i kT e ht
  split at hc
  case h_2 => cases hc
  rename_i kt z x' i' hk hz hx hi
  injection hc with hc; subst hc
  simp only [evOp, Option.map_eq_some_iff, Prod.mk.injEq] at he
  obtain ⟨v1, h1, rfl, rfl⟩ := he
  obtain ⟨v', h2, h3⟩ := lookup_sound (P := P) h ht hk hz (opd_sound hE hG hx) (opd_sound hE hG hi) h1
  refine Done.val h (v' := v') ?_ h3
  simp only [Go.execOp, hop, Go.Sem.run_bind, h2, Go.Result.andThen_ok, Go.Sem.run_pure]

theorem sound_mapSet (h : R W0 φ s w) (hE : ERel φ E a.tmps) (hG : GRel φ P.globals.size) {t : TypeId} {m k x : Operand} (hop : o.op = .mapUpdate t m k x ∨ o.op = .insert t m k x) {o' : AOp} (hc : compOp P o = some o')
    (he : evOp o' E s = some (v, s')) : Done P W0 φ s w ((Go.execOp a.eval o).run P w) v s' := by
  have hrun : (Go.execOp a.eval o).run P w = ((Go.Instr.mapUpdate t (a.eval m) (a.eval k) (a.eval x)).run P w).andThen fun _ w' => .ok .skip w' := by
    rcases hop with hop | hop <;> simp [Go.execOp, hop]
  have hc' : compMapSet P t m k x = some o' := by
    rcases hop with hop | hop <;> simpa only [compOp, hop] using hc
  clear hc
  unfold compMapSet at hc'
  split at hc'
  case h_2 => cases hc'
  rename_i kT e ht
  split at hc'
  case h_2 => cases hc'
  rename_i kt m' k' x' hk hm hkk hx
  injection hc' with hc'; subst hc'
  simp only [evOp, Option.map_eq_some_iff, Prod.mk.injEq] at he
  obtain ⟨s1, h1, rfl, rfl⟩ := he
  obtain ⟨w', h2, h3⟩ := mapSet_sound (P := P) h ht hk (opd_sound hE hG hm) (opd_sound hE hG hkk) (opd_sound hE hG hx) h1
  exact ⟨φ, Go.undef, w', .inr ⟨by rw [hrun, h2]; rfl, rfl⟩, ⟨#[], rfl, rfl⟩, h3⟩

theorem sound_range (h : R W0 φ s w) (hE : ERel φ E a.tmps) (hG : GRel φ P.globals.size) {t : TypeId} {x : Operand} (hop : o.op = .range t x) {o' : AOp} (hc : compOp P o = some o')
    (he : evOp o' E s = some (v, s')) : Done P W0 φ s w ((Go.execOp a.eval o).run P w) v s' := by
  have fin : ∀ (it : Obj) (b : Blk), (∀ φ', PLe φ φ' → BlkRel W0.P φ' (w.alloc it) w.heap.size 0 b) → (Go.Instr.range t (a.eval x)).run P w = .ok (.pointer (some ⟨w.heap.size, 0, none⟩)) (w.alloc it) →
      Done P W0 φ s w ((Go.execOp a.eval o).run P w) (.ptr (some (s.next, 0))) (s.alloc b) := by
    intro it b hb hrun
    have hal := h.alloc b it 0 (w' := w.alloc it) rfl rfl rfl (hb _ (h.ple_ext _))
    refine ⟨_, .pointer (some ⟨w.heap.size, 0, none⟩), w.alloc it, .inl ?_, ⟨_, rfl, by unfold ARel; rw [Phi.ext_same]⟩, hal⟩
    simp only [Go.execOp, hop, Go.Sem.run_bind, hrun, Go.Result.andThen_ok, Go.Sem.run_pure]
  have hnew : ∀ it : Obj, (Go.newObj it).run P w = .ok w.heap.size (w.alloc it) := fun it => rfl
  have hgot : ∀ it : Obj, (w.alloc it).heap[w.heap.size]? = some it := fun it => by show (w.heap.push it)[w.heap.size]? = _; simp
  simp only [compOp, hop] at hc
  split at hc
  · rename_i x' ht hx
    injection hc with hc; subst hc
    have hv := opd_sound hE hG hx
    simp only [evOp] at he
    split at he
    case h_2 => cases he
    rename_i b hb
    simp only [Option.some.injEq, Prod.mk.injEq] at he
    obtain ⟨rfl, rfl⟩ := he
    rw [hb] at hv
    refine fin (.stringIter ⟨b.toArray⟩ 0) (.sIter b 0) (fun _ _ => hgot _) ?_
    rw [show a.eval x = _ from hv]
    simp only [Go.Instr.range, Go.Sem.run_bind, run_under ht, Go.Result.andThen_ok, Go.Sem.run_pure, hnew]
  · rename_i x' kt et ht hx
    injection hc with hc; subst hc
    have hv := opd_sound hE hG hx
    simp only [evOp, rangeMapV] at he
    split at he
    · rename_i hb
      simp only [Option.some.injEq, Prod.mk.injEq] at he
      obtain ⟨rfl, rfl⟩ := he
      rw [hb] at hv
      refine fin (.mapIter none 0 #[] 0) (.mIter none 0 [] 0) (fun _ _ => ⟨none, hgot _, rfl⟩) ?_
      rw [show a.eval x = _ from hv]
      simp only [Go.Instr.range, Go.Sem.run_bind, run_under ht, Go.Result.andThen_ok, Go.Sem.run_pure, hnew]
    · rename_i r hb
      split at he
      case h_2 => cases he
      rename_i es clock hg
      simp only [Option.some.injEq, Prod.mk.injEq] at he
      obtain ⟨rfl, rfl⟩ := he
      rw [hb] at hv
      obtain ⟨c, e1, hbr⟩ := hv
      obtain ⟨es', hat, hw, hmr⟩ := h.mapAt hbr hg
      have hgo := run_getObj_map (P := P) hw
      refine fin (.mapIter (some c) clock #[] clock) (.mIter (some r) clock [] clock) (fun φ' hle => ⟨some c, hgot _, ⟨c, rfl, hbr.mono hle⟩⟩) ?_
      rw [e1]
      simp only [Go.Instr.range, Go.Sem.run_bind, run_under ht, Go.Result.andThen_ok, hgo, Go.Sem.run_pure, hnew]
    · cases he
  · cases hc

theorem sound_nextStr (h : R W0 φ s w) (hE : ERel φ E a.tmps) (hG : GRel φ P.globals.size) {x : Operand} {isS : Bool} (hop : o.op = .next x isS) {o' : AOp} (hc : compOp P o = some o')
    (he : evOp o' E s = some (v, s')) : Done P W0 φ s w ((Go.execOp a.eval o).run P w) v s' := by
  cases isS with
  | false => simp [compOp, hop] at hc
  | true =>
    simp only [compOp, hop, Option.map_eq_some_iff] at hc
    obtain ⟨x', hx, rfl⟩ := hc
    have hv := opd_sound hE hG hx
    simp only [evOp, nextStrV] at he
    split at he
    case h_2 => cases he
    rename_i r hE'
    split at he
    case h_2 => cases he
    rename_i b pos hg
    rw [hE'] at hv
    obtain ⟨a', e1, ha⟩ := hv
    obtain ⟨c, sz, hcc⟩ := h.at_of_get hg ha.notUnk
    obtain rfl := ha.eq hcc
    have hw : w.heap[c]? = some (.stringIter ⟨b.toArray⟩ pos) := h.blk _ _ _ _ hcc hg
    have hlt := h.lt _ _ _ hcc
    have hgo : (Go.getObj c).run P w = .ok (.stringIter ⟨b.toArray⟩ pos) w := by simp [Go.getObj, Sem.run, hw]
    split at he
    · rename_i hpos
      split at he
      case isFalse => cases he
      rename_i hfl
      simp only [Option.some.injEq, Prod.mk.injEq] at he
      obtain ⟨rfl, rfl⟩ := he
      have hput := h.put (x' := .sIter b (pos + (Go.Utf8.decode ⟨b.toArray⟩ pos).2)) (o := .stringIter ⟨b.toArray⟩ (pos + (Go.Utf8.decode ⟨b.toArray⟩ pos).2)) (w' := { w with heap := w.heap.setIfInBounds c (.stringIter ⟨b.toArray⟩ (pos + (Go.Utf8.decode ⟨b.toArray⟩ pos).2)) }) hcc hg rfl hfl rfl rfl rfl rfl
        (by show (w.heap.setIfInBounds c _)[c]? = _; rw [Array.getElem?_setIfInBounds_self_of_lt hlt])
      refine ⟨φ, .tuple #[.bool true, Go.goInt pos, .int .i32 (Go.Utf8.decode ⟨b.toArray⟩ pos).1], _, .inl ?_, ⟨_, rfl, VsRel.cons rfl (VsRel.cons rfl (VsRel.cons rfl VsRel.nil))⟩, hput⟩
      have hsz : pos < (ByteArray.mk b.toArray).size := by rw [bytes_size]; exact hpos
      have hset : ∀ o : Obj, (Go.setObj c o).run P w = .ok () { w with heap := w.heap.setIfInBounds c o } := by
        intro o; simp [Go.setObj, Sem.run, hw]
      simp only [Go.execOp, hop, Go.Sem.run_bind, Go.Instr.next, e1, hgo, Go.Result.andThen_ok, if_pos hsz, hset, Go.Sem.run_pure]
    · rename_i hpos
      simp only [Option.some.injEq, Prod.mk.injEq] at he
      obtain ⟨rfl, rfl⟩ := he
      have hsz : ¬ pos < (ByteArray.mk b.toArray).size := by rw [bytes_size]; exact hpos
      refine ⟨φ, .tuple #[.bool false], w, .inl ?_, ⟨_, rfl, VsRel.cons rfl VsRel.nil⟩, Post.refl h⟩
      simp only [Go.execOp, hop, Go.Sem.run_bind, Go.Instr.next, e1, hgo, Go.Result.andThen_ok, if_neg hsz, Go.Sem.run_pure]

theorem MRel.find {p : MEnt → Bool} {p' : Go.MapEntry → Bool} (hp : ∀ (e : MEnt) (e' : Go.MapEntry), e'.born = e.born → p' e' = p e) : ∀ {l : List MEnt} {l' : List Go.MapEntry} {e : MEnt}, MRel φ l l' → l.find? p = some e →
    ∃ e', l'.find? p' = some e' ∧ VRel φ e.key e'.key ∧ VRel φ e.val e'.val
  | [], l', e, _, h => by simp at h
  | x :: r, _, e, ⟨x', t, he, h1, h2, h3, h4⟩, h => by
    subst he
    rw [List.find?_cons] at h ⊢
    rw [hp x x' h3]
    cases hpx : p x with
    | true =>
      rw [hpx] at h
      obtain rfl : x = e := by simpa using h
      exact ⟨x', rfl, h1, h2⟩
    | false =>
      rw [hpx] at h
      exact MRel.find hp h4 h

theorem sound_entry (h : R W0 φ s w) (hE : ERel φ E a.tmps) (hG : GRel φ P.globals.size) {x : Operand} (hop : o.op = .entry x) {o' : AOp} (hc : compOp P o = some o')
    (he : evOp o' E s = some (v, s')) : Done P W0 φ s w ((Go.execOp a.eval o).run P w) v s' := by
  simp only [compOp, hop, Option.map_eq_some_iff] at hc
  obtain ⟨x', hx, rfl⟩ := hc
  have hv := opd_sound hE hG hx
  simp only [evOp, Option.map_eq_some_iff, Prod.mk.injEq] at he
  obtain ⟨v1, he, rfl, rfl⟩ := he
  unfold entryV at he
  split at he
  case h_2 => cases he
  rename_i r hE'
  split at he
  case h_2 => cases he
  rename_i m since seen last hg
  split at he
  case h_2 => cases he
  rename_i stamp es clock hst hgm
  split at he
  case isFalse => cases he
  rename_i hcl
  simp only [Option.map_eq_some_iff] at he
  obtain ⟨ent, hf, rfl⟩ := he
  rw [hE'] at hv
  obtain ⟨a', e1, ha⟩ := hv
  obtain ⟨c, sz, hcc⟩ := h.at_of_get hg ha.notUnk
  obtain rfl := ha.eq hcc
  obtain ⟨m', hw, hm⟩ := h.blk _ _ _ _ hcc hg
  obtain ⟨c2, e2, hb⟩ := hm
  injection e2 with e2
  subst e2
  obtain ⟨es', hat, hw2, hmr⟩ := h.mapAt hb hgm
  have hgo : (Go.getObj c).run P w = .ok (.mapIter (some c2) since seen.toArray last) w := by simp [Go.getObj, Sem.run, hw]
  have hgo2 := run_getObj_map (P := P) hw2
  obtain ⟨ent', hf', hk, hx2⟩ := hmr.find (p' := fun e => e.born == stamp) (fun e e' hb => by rw [hb]) hf
  refine Done.val h (v' := .tuple #[ent'.key, ent'.val]) ?_ ⟨_, rfl, VsRel.cons hk (VsRel.cons hx2 VsRel.nil)⟩
  have hfa : es'.find? (fun e => e.born == stamp) = some ent' := by rw [← Array.find?_toList]; exact hf'
  have hne : (clock != last) = false := by simp [hcl]
  have hba : seen.toArray.back? = some stamp := by simp [hst]
  simp only [Go.execOp, hop, Go.Sem.run_bind, Go.Instr.entry, e1, hgo, Go.Result.andThen_ok, hba, hgo2, hne, hfa, Bool.false_eq_true, if_false, Go.Sem.run_pure]

/-- EVERY OPERATION. -/
theorem compOp_sound (h : R W0 φ s w) (hE : ERel φ E a.tmps) (hG : GRel φ P.globals.size) {o' : AOp} (hc : compOp P o = some o')
    (he : evOp o' E s = some (v, s')) : Done P W0 φ s w ((Go.execOp a.eval o).run P w) v s' := by
  cases hop : o.op with
  | move x => exact sound_move h hE hG (.inl hop) (by simpa only [compOp, hop] using hc) he
  | assign x => exact sound_move h hE hG (.inr hop) (by simpa only [compOp, hop] using hc) he
  | pick c x y => exact sound_pick h hE hG hop hc he
  | alloc e => exact sound_alloc h hop hc he
  | box e x => exact sound_box h hE hG hop hc he
  | build t ps => exact sound_build h hE hG hop hc he
  | buildSlice t n ps => exact sound_buildSlice h hE hG hop hc he
  | insert t m k x => exact sound_mapSet h hE hG (.inr hop) hc he
  | load t x => exact sound_load h hE hG hop hc he
  | store t x y => exact sound_store h hE hG hop hc he
  | ready g => simp [compOp, hop] at hc
  | waits g => simp [compOp, hop] at hc
  | nilCheck x => exact sound_nilCheck h hE hG hop hc he
  | binOp b t x y yt => exact sound_binOp h hE hG hop hc he
  | unOp u t x => exact sound_un h hE hG hop hc he
  | convert sr ds x => exact sound_conv h hE hG hop hc he
  | sliceToArrayPointer t x => simp [compOp, hop] at hc
  | makeInterface t x => exact sound_mkIface h hE hG hop hc he
  | makeFunc fn p q => exact sound_mkFn h hE hG hop hc he
  | makeMap t r => exact sound_makeMap h hop hc he
  | makeChan t x => simp [compOp, hop] at hc
  | makeSlice t l c => exact sound_makeSlice h hE hG hop hc he
  | slice t x lo hi mx => exact sound_slice h hE hG hop hc he
  | fieldAddr t x i => exact sound_fieldAddr h hE hG hop hc he
  | field t x i => exact sound_field h hE hG hop hc he
  | indexAddr t x i => exact sound_indexAddr h hE hG hop hc he
  | index t x i => exact sound_index h hE hG hop hc he
  | lookup t x i ok => exact sound_lookup h hE hG hop hc he
  | mapUpdate t m k x => exact sound_mapSet h hE hG (.inl hop) hc he
  | mapEntry t m k => simp [compOp, hop] at hc
  | entryStore t m k x => simp [compOp, hop] at hc
  | range t x => exact sound_range h hE hG hop hc he
  | next x b => exact sound_nextStr h hE hG hop hc he
  | entry x => exact sound_entry h hE hG hop hc he
  | typeAssert x t u b => simp [compOp, hop] at hc
  | extract x i => exact sound_extract h hE hG hop hc he
  | call c =>
    obtain ⟨cal, args, ats⟩ := c
    cases cal with
    | value f => simp [compOp, hop] at hc
    | invoke r m => simp [compOp, hop] at hc
    | builtin b => exact sound_builtin h hE hG hop hc he
  | go c => simp [compOp, hop] at hc
  | defer c => simp [compOp, hop] at hc
  | panic x =>
    simp only [compOp, hop] at hc
    injection hc with hc; subst hc
    simp [evOp] at he
  | send c x => simp [compOp, hop] at hc
  | recv t c b => simp [compOp, hop] at hc
  | select cs b => simp [compOp, hop] at hc
end ops
end Am
