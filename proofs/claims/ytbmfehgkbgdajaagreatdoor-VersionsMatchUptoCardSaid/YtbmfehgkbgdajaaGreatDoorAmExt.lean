/- Functions without a body that the abstract machine knows. -/
import Derived.Test.YtbmfehgkbgdajaaGreatDoorAmNext
import Derived.Laws.Externs
import Derived.KernelRfl
set_option linter.all false
namespace Am
open Go (IntKind BinOp UnOp FuncId TypeId Program Value World Addr Obj Operand Oper Op Sem Act)

variable {W0 : Ctx} {φ : Phi} {s : St} {w w' : World} {P : Program}

theorem ext_idx (fn : Go.Func) (h1 : fn.name = "internal/bytealg.IndexByteString") (h2 : fn.origin = "") : Go.Extern.findNext fn = none ∧ Go.Extern.find fn = some Go.Extern.BytealgIndexByte.indexByte := by
  unfold Go.Extern.findNext Go.Extern.find
  simp only [h1, h2]
  exact ⟨by kernel_rfl, by kernel_rfl⟩
theorem ext_noescape (fn : Go.Func) (h1 : fn.name = "internal/abi.NoEscape") (h2 : fn.origin = "") : Go.Extern.findNext fn = none ∧ Go.Extern.find fn = some Go.Extern.AbiNoEscape.same := by
  unfold Go.Extern.findNext Go.Extern.find
  simp only [h1, h2]
  exact ⟨by kernel_rfl, by kernel_rfl⟩
theorem ext_nozero (fn : Go.Func) (h1 : fn.name = "internal/bytealg.MakeNoZero") (h2 : fn.origin = "") : Go.Extern.findNext fn = none ∧ Go.Extern.find fn = some (Go.Extern.BytealgMakeNoZero.makeNoZero fn.params fn.resultTypes) := by
  unfold Go.Extern.findNext Go.Extern.find
  simp only [h1, h2]
  exact ⟨by kernel_rfl, by kernel_rfl⟩

theorem ext_count (fn : Go.Func) (h1 : fn.name = "internal/bytealg.CountString") (h2 : fn.origin = "") : Go.Extern.findNext fn = none ∧ Go.Extern.find fn = some Go.Extern.BytealgCount.count := by
  unfold Go.Extern.findNext Go.Extern.find
  simp only [h1, h2]
  exact ⟨by kernel_rfl, by kernel_rfl⟩
theorem ext_cmp (fn : Go.Func) (h1 : fn.name = "internal/bytealg.abigen_runtime_cmpstring") (h2 : fn.origin = "") : Go.Extern.findNext fn = none ∧ Go.Extern.find fn = some Go.Extern.BytealgCompare.compare := by
  unfold Go.Extern.findNext Go.Extern.find
  simp only [h1, h2]
  exact ⟨by kernel_rfl, by kernel_rfl⟩

theorem cntB_foldl (c : UInt8) : ∀ (l : List UInt8) (n : Int), l.foldl (fun n x => if x == c then n + 1 else n) n = n + (cntB c l : Nat)
  | [], n => by simp [cntB]
  | b :: r, n => by
    rw [List.foldl_cons, cntB_foldl c r, cntB]
    by_cases h : b = c
    · simp [h]; omega
    · simp [h]

theorem bytes_loop (f : Int → UInt8 → Int) (as : ByteArray) : ∀ (i j : Nat) (b : Int), as.size ≤ i + j →
    (ByteArray.foldlM.loop (m := Id) (fun b x => pure (f b x)) as as.size (Nat.le_refl _) i j b : Int) = (as.data.toList.drop j).foldl f b
  | i, j, b, h => by
    have hsz : as.data.toList.length = as.size := by rw [Array.length_toList]; rfl
    unfold ByteArray.foldlM.loop
    by_cases hj : j < as.size
    · rw [dif_pos hj]
      cases i with
      | zero => omega
      | succ i =>
        have hd : as.data.toList.drop j = as[j] :: as.data.toList.drop (j + 1) := by
          rw [List.drop_eq_getElem_cons (by rw [hsz]; exact hj)]; rfl
        rw [hd, List.foldl_cons]
        exact bytes_loop f as i (j + 1) (f b as[j]) (by omega)
    · rw [dif_neg hj, List.drop_of_length_le (by omega)]
      rfl

theorem count_bytes (c : UInt8) (l : List UInt8) : (ByteArray.mk l.toArray).foldl (fun n x => if x == c then n + 1 else n) ((0 : Nat) : Int) = (cntB c l : Nat) := by
  have h : ∀ (b : ByteArray), b.foldl (fun n x => if x == c then n + 1 else n) ((0 : Nat) : Int) = b.data.toList.foldl (fun n x => if x == c then n + 1 else n) 0 := by
    intro b
    have := bytes_loop (fun n x => if x == c then n + 1 else n) b b.size 0 0 (by omega)
    rw [List.drop_zero] at this
    rw [← this]
    show Id.run (ByteArray.foldlM _ _ _ _ _) = _
    unfold ByteArray.foldlM
    rw [dif_pos (Nat.le_refl _)]
    rfl
  rw [h, cntB_foldl]
  simp

theorem cmpB_find : ∀ (a b : List UInt8) (f g : Nat → UInt8), (∀ i (h : i < a.length), f i = a[i]) → (∀ i (h : i < b.length), g i = b[i]) →
    (match (List.range (min a.length b.length)).find? fun i => f i != g i with
     | some i => if f i < g i then -1 else 1
     | none => if a.length < b.length then -1 else if a.length > b.length then 1 else 0 : Int) = cmpB a b
  | [], [], f, g, _, _ => rfl
  | [], y :: b, f, g, _, _ => by simp [cmpB]
  | x :: a, [], f, g, _, _ => by simp [cmpB]
  | x :: a, y :: b, f, g, hf, hg => by
    have h0 : f 0 = x := hf 0 (by simp)
    have h1 : g 0 = y := hg 0 (by simp)
    have ih := cmpB_find a b (fun i => f (i + 1)) (fun i => g (i + 1)) (fun i h => by have := hf (i + 1) (by simp; omega); simpa using this) (fun i h => by have := hg (i + 1) (by simp; omega); simpa using this)
    have hm : min (x :: a).length (y :: b).length = min a.length b.length + 1 := by simp
    rw [hm, List.range_succ_eq_map, List.find?_cons, h0, h1, cmpB]
    by_cases hxy : x = y
    · subst hxy
      simp only [bne_self_eq_false, if_true]
      rw [← ih, List.find?_map]
      cases hq : List.find? (fun i => f (i + 1) != g (i + 1)) (List.range (min a.length b.length)) with
      | none =>
        have : List.find? ((fun i => f i != g i) ∘ Nat.succ) (List.range (min a.length b.length)) = none := hq
        rw [this]
        simp
      | some i =>
        have : List.find? ((fun i => f i != g i) ∘ Nat.succ) (List.range (min a.length b.length)) = some i := hq
        rw [this]
        rfl
    · have : (x != y) = true := by simp [hxy]
      simp only [this, if_neg hxy, h0, h1]

theorem cmp_bytes (a b : List UInt8) : Go.Extern.BytealgCompare.cmp ⟨a.toArray⟩ ⟨b.toArray⟩ = cmpB a b := by
  have hg : ∀ (l : List UInt8) i (h : i < l.length), (ByteArray.mk l.toArray)[i]! = l[i] := by
    intro l i hi
    rw [getElem!_pos (ByteArray.mk l.toArray) i (by rw [bytes_size]; exact hi)]
    rfl
  have := cmpB_find a b (fun i => (ByteArray.mk a.toArray)[i]!) (fun i => (ByteArray.mk b.toArray)[i]!) (hg a) (hg b)
  rw [← this]
  unfold Go.Extern.BytealgCompare.cmp
  simp only [bytes_size]
  rfl

theorem findByte_range (c : UInt8) : ∀ (l : List UInt8) (k : Nat) (f : Nat → Bool), (∀ i (h : i < l.length), f i = (l[i] == c)) →
    (match (List.range l.length).find? f with | some i => ((k + i : Nat) : Int) | none => -1) = findByte l c k
  | [], k, f, _ => rfl
  | x :: l, k, f, hf => by
    have h0 : f 0 = (x == c) := hf 0 (by simp)
    simp only [List.length_cons, List.range_succ_eq_map, List.find?_cons, h0, findByte]
    by_cases hx : x = c
    · simp [hx]
    · rw [if_neg hx, beq_eq_false_iff_ne.2 hx]
      have ih := findByte_range c l (k + 1) (fun i => f (i + 1)) (fun i h => by have := hf (i + 1) (by simp; omega); simpa using this)
      rw [← ih, List.find?_map]
      cases hq : List.find? (f ∘ Nat.succ) (List.range l.length) with
      | none => have : List.find? (fun i => f (i + 1)) (List.range l.length) = none := hq; simp [this]
      | some i =>
        have : List.find? (fun i => f (i + 1)) (List.range l.length) = some i := hq
        simp [this, Int.add_comm, Int.add_left_comm]

theorem digits_size : ∀ (n t : Nat) (acc : Array Value), (Go.Extern.BytealgMakeNoZero.digits n t acc).size = acc.size + n
  | 0, _, _ => rfl
  | n + 1, t, acc => by rw [Go.Extern.BytealgMakeNoZero.digits, digits_size]; simp; omega

theorem ext_sound (h : R W0 φ s w) {E : Env} {a : Act} {f : FuncId} {args : Array Operand} {l : List AOpd} (hE : ERel φ E a.tmps) (hG : GRel φ P.globals.size) (hl : listM (opdOf P) args.toList = some l) {o' : AOp}
    (hc : compExtern P f l = some o') {v : Val} {s' : St} (he : evOp o' E s = some (v, s')) : Done P W0 φ s w ((Go.callFunc f (args.map a.eval)).run P w) v s' := by
  have hr := opds_sound hE hG hl
  unfold compExtern at hc
  split at hc
  case h_2 => cases hc
  rename_i fn hf
  split at hc
  case isFalse => cases hc
  rename_i hbo
  have key : ∀ (e : Array Value → Sem Value), (fn.name == "runtime.NumGoroutine") = false → Go.Extern.findNext fn = none → Go.Extern.find fn = some e →
      (∃ φ' v' w', (e (args.map a.eval)).run P w = .ok v' w' ∧ VRel φ' v v' ∧ Post W0 φ s w φ' s' w') → Done P W0 φ s w ((Go.callFunc f (args.map a.eval)).run P w) v s' := by
    rintro e h1 h2 h3 ⟨φ', v', w', h4, h5, h6⟩
    exact ⟨φ', v', w', .inl (by rw [Go.run_callFunc_extern hf h1 hbo.1 h2 h3, h4]; rfl), h5, h6⟩
  split at hc
  · rename_i hn
    obtain ⟨h2, h3⟩ := ext_idx fn hn hbo.2
    split at hc
    case h_2 => cases hc
    rename_i x c
    injection hc with hc; subst hc
    obtain ⟨v1, v2, e1, hv1, hv2⟩ := rel2 hr
    refine key _ (by rw [hn]; decide) h2 h3 ?_
    rw [args_eq e1]
    simp only [evOp] at he
    split at he
    case h_2 => cases he
    rename_i b n hb hcn
    simp only [Option.some.injEq, Prod.mk.injEq] at he
    obtain ⟨rfl, rfl⟩ := he
    rw [hb] at hv1; rw [hcn] at hv2
    have e2 : v1 = _ := hv1
    have e3 : v2 = _ := hv2
    refine ⟨φ, .int .i64 (findByte b (UInt8.ofNat n.toNat) 0), w, ?_, rfl, Post.refl h⟩
    have hfb := findByte_range (UInt8.ofNat n.toNat) b 0 (fun i => (ByteArray.mk b.toArray)[i]! == UInt8.ofNat n.toNat) (fun i hi => by
      have : (ByteArray.mk b.toArray)[i]! = b[i] := by
        rw [getElem!_pos (ByteArray.mk b.toArray) i (by rw [bytes_size]; exact hi)]
        rfl
      rw [this])
    rw [e2, e3, ← hfb]
    have e4 : Go.Extern.BytealgIndexByte.indexByte #[.string ⟨b.toArray⟩, .int .u8 n] = (do
        let b ← Go.Extern.Bytes.bytesOf (.string ⟨b.toArray⟩)
        let c ← Go.Extern.Bytes.asByte (.int .u8 n)
        match (List.range b.size).find? fun i => b[i]! == c with
        | some i => pure (Go.goInt i)
        | none => pure (Go.goInt (-1))) := rfl
    show (Go.Extern.BytealgIndexByte.indexByte #[.string ⟨b.toArray⟩, .int .u8 n]).run P w = _
    rw [e4]
    simp only [Go.Extern.Bytes.bytesOf, Go.Extern.Bytes.asByte, Go.Sem.run_bind, Go.Sem.run_pure, Go.Result.andThen_ok, bytes_size]
    have e5 : n.toNat.toUInt8 = UInt8.ofNat n.toNat := rfl
    rw [e5]
    cases (List.range b.length).find? (fun i => (ByteArray.mk b.toArray)[i]! == UInt8.ofNat n.toNat) with
    | none => rfl
    | some i => simp [Go.goInt]
  · split at hc
    · rename_i hn
      obtain ⟨h2, h3⟩ := ext_noescape fn hn hbo.2
      split at hc
      case h_2 => cases hc
      rename_i x
      injection hc with hc; subst hc
      obtain ⟨v1, e1, hv1⟩ := rel1 hr
      refine key _ (by rw [hn]; decide) h2 h3 ?_
      rw [args_eq e1]
      simp only [evOp, Option.some.injEq, Prod.mk.injEq] at he
      obtain ⟨rfl, rfl⟩ := he
      exact ⟨φ, v1, w, rfl, hv1, Post.refl h⟩
    · split at hc
      case isFalse =>
        split at hc
        · rename_i hn
          obtain ⟨h2, h3⟩ := ext_count fn hn hbo.2
          split at hc
          case h_2 => cases hc
          rename_i x c
          injection hc with hc; subst hc
          obtain ⟨v1, v2, e1, hv1, hv2⟩ := rel2 hr
          refine key _ (by rw [hn]; decide) h2 h3 ?_
          rw [args_eq e1]
          simp only [evOp] at he
          split at he
          case h_2 => cases he
          rename_i b n hb hcn
          simp only [Option.some.injEq, Prod.mk.injEq] at he
          obtain ⟨rfl, rfl⟩ := he
          rw [hb] at hv1; rw [hcn] at hv2
          have e2 : v1 = _ := hv1
          have e3 : v2 = _ := hv2
          subst e2; subst e3
          refine ⟨φ, .int .i64 (cntB (UInt8.ofNat n.toNat) b), w, ?_, rfl, Post.refl h⟩
          have e5 : n.toNat.toUInt8 = UInt8.ofNat n.toNat := rfl
          have e4 : Go.Extern.BytealgCount.count #[.string ⟨b.toArray⟩, .int .u8 n] = (do
            let b ← Go.Extern.Bytes.bytesOf (.string ⟨b.toArray⟩)
            let c ← Go.Extern.Bytes.asByte (.int .u8 n)
            pure (Go.goInt (b.foldl (fun n x => if x == c then n + 1 else n) (0 : Nat)))) := rfl
          show (Go.Extern.BytealgCount.count #[.string ⟨b.toArray⟩, .int .u8 n]).run P w = _
          rw [e4]
          simp only [Go.Extern.Bytes.bytesOf, Go.Extern.Bytes.asByte, Go.Sem.run_bind, Go.Sem.run_pure, Go.Result.andThen_ok, e5, count_bytes, Go.goInt]
        · split at hc
          case isFalse => cases hc
          rename_i hn
          obtain ⟨h2, h3⟩ := ext_cmp fn hn hbo.2
          split at hc
          case h_2 => cases hc
          rename_i x y
          injection hc with hc; subst hc
          obtain ⟨v1, v2, e1, hv1, hv2⟩ := rel2 hr
          refine key _ (by rw [hn]; decide) h2 h3 ?_
          rw [args_eq e1]
          simp only [evOp] at he
          split at he
          case h_2 => cases he
          rename_i b b' hb hb'
          simp only [Option.some.injEq, Prod.mk.injEq] at he
          obtain ⟨rfl, rfl⟩ := he
          rw [hb] at hv1; rw [hb'] at hv2
          have e2 : v1 = _ := hv1
          have e3 : v2 = _ := hv2
          subst e2; subst e3
          refine ⟨φ, .int .i64 (cmpB b b'), w, ?_, rfl, Post.refl h⟩
          have e4 : Go.Extern.BytealgCompare.compare #[.string ⟨b.toArray⟩, .string ⟨b'.toArray⟩] = (do
            pure (Go.goInt (Go.Extern.BytealgCompare.cmp (← Go.Extern.Bytes.bytesOf (.string ⟨b.toArray⟩)) (← Go.Extern.Bytes.bytesOf (.string ⟨b'.toArray⟩))))) := rfl
          show (Go.Extern.BytealgCompare.compare #[.string ⟨b.toArray⟩, .string ⟨b'.toArray⟩]).run P w = _
          rw [e4]
          simp only [Go.Extern.Bytes.bytesOf, Go.Sem.run_bind, Go.Sem.run_pure, Go.Result.andThen_ok, cmp_bytes, Go.goInt]
      rename_i hn
      obtain ⟨h2, h3⟩ := ext_nozero fn hn hbo.2
      split at hc
      case h_2 => cases hc
      rename_i n e hu
      split at hc
      case h_2 => cases hc
      rename_i hsz
      injection hc with hc; subst hc
      obtain ⟨v1, e1, hv1⟩ := rel1 hr
      refine key _ (by rw [hn]; decide) h2 h3 ?_
      rw [args_eq e1]
      simp only [evOp] at he
      split at he
      case h_2 => cases he
      rename_i m hm
      split at he
      case isFalse => cases he
      rename_i hmb
      simp only [Option.some.injEq, Prod.mk.injEq] at he
      obtain ⟨rfl, rfl⟩ := he
      rw [hm] at hv1
      have e2 : v1 = _ := hv1
      subst e2
      unfold under0 at hu
      simp only [Option.bind_eq_some_iff] at hu
      obtain ⟨t, ht, hu⟩ := hu
      have hg := grown_ge w m.toNat 0 e
      have hds := digits_size (grown w m.toNat 0 e) ((Go.Question.extern "internal/bytealg.MakeNoZero.bytes" 0).cut (w.tape (w.drawn + 1) (.extern "internal/bytealg.MakeNoZero.bytes" 0))) #[]
      simp only [List.size_toArray, List.length_nil, Nat.zero_add] at hds
      refine ⟨_, .slice (some ⟨w.heap.size, 0, none⟩) m.toNat (grown w m.toNat 0 e), { w with heap := w.heap.push (.cells (Go.Extern.BytealgMakeNoZero.digits (grown w m.toNat 0 e) ((Go.Question.extern "internal/bytealg.MakeNoZero.bytes" 0).cut (w.tape (w.drawn + 1) (.extern "internal/bytealg.MakeNoZero.bytes" 0))) #[]) e), drawn := w.drawn + 2 }, ?_, ⟨_, _, rfl, ?_⟩,
        h.newRow (arr := Go.Extern.BytealgMakeNoZero.digits (grown w m.toNat 0 e) ((Go.Question.extern "internal/bytealg.MakeNoZero.bytes" 0).cut (w.tape (w.drawn + 1) (.extern "internal/bytealg.MakeNoZero.bytes" 0))) #[]) (fr := (0, 0)) true true (some e) ?_ ?_ rfl rfl rfl (noFrz _) (fun _ => rfl) (fun t ht => by injection ht)⟩
      · have e4 : Go.Extern.BytealgMakeNoZero.makeNoZero fn.params fn.resultTypes #[.int .i64 m] = (do
          let some t := fn.resultTypes[0]? | Go.stuck "bytealg.MakeNoZero: no result type"
          let .slice elem ← Go.underlying t | Go.stuck "bytealg.MakeNoZero: slice type expected"
          if m < 0 || m > 2 ^ 48 then Go.runtimePanic (.error "makeslice: len out of range")
          let cap ← Go.choose (.appendCap m.toNat 0 elem)
          Go.askRoom cap
          let bytes ← Go.choose (.extern "internal/bytealg.MakeNoZero.bytes" 0)
          let a ← Go.newRow elem (Go.Extern.BytealgMakeNoZero.digits cap bytes #[])
          pure (.slice (some a) m.toNat cap)) := rfl
        show (Go.Extern.BytealgMakeNoZero.makeNoZero fn.params fn.resultTypes #[.int .i64 m]).run P w = _
        rw [e4]
        have hcond : (decide (m < 0) || decide (m > 2 ^ 48)) = false := by simp; omega
        simp only [ht, Go.Sem.run_bind, run_under hu, Go.Result.andThen_ok, hcond, Bool.false_eq_true, if_false, Go.run_choose, Go.Question.forced, Go.run_askRoom]
        simp [Go.newRow, grown]
        rfl
      · unfold SRel; rw [Phi.ext_same]
        exact ⟨by decide, hg, by rw [hds]; simp, .inl rfl⟩
      · simp only [List.length_replicate, hds]; exact hg
      · have hlen : ((Go.Extern.BytealgMakeNoZero.digits (grown w m.toNat 0 e) ((Go.Question.extern "internal/bytealg.MakeNoZero.bytes" 0).cut (w.tape (w.drawn + 1) (.extern "internal/bytealg.MakeNoZero.bytes" 0))) #[]).toList.take m.toNat).length = m.toNat := by simp [hds]; exact Nat.min_eq_left hg
        have := VsRel.replicate_undef (φ := φ) ((Go.Extern.BytealgMakeNoZero.digits (grown w m.toNat 0 e) ((Go.Question.extern "internal/bytealg.MakeNoZero.bytes" 0).cut (w.tape (w.drawn + 1) (.extern "internal/bytealg.MakeNoZero.bytes" 0))) #[]).toList.take m.toNat)
        rw [hlen] at this
        simpa using this
end Am
