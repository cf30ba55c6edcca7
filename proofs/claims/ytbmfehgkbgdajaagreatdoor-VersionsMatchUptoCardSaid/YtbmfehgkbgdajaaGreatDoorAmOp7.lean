/- Each operation of the abstract machine stands for the model's: built-in functions, conversions of memory. -/
import Derived.Test.YtbmfehgkbgdajaaGreatDoorAmOp6
set_option linter.all false
namespace Am
open Go (IntKind BinOp UnOp FuncId TypeId Program Value World Addr Obj Operand Oper Op Sem Act)

variable {W0 : Ctx} {φ : Phi} {s : St} {w w' : World} {P : Program}

theorem args_eq {a : Act} {args : Array Operand} {l : List Value} (h : args.toList.map a.eval = l) : args.map a.eval = l.toArray := by
  obtain ⟨x⟩ := args
  simp at h ⊢
  exact h

theorem rel1 {x : Val} {l : List Value} (h : VsRel φ [x] l) : ∃ a, l = [a] ∧ VRel φ x a := by
  obtain ⟨b, s, rfl, hb, hs⟩ := h
  rw [show s = [] from hs]; exact ⟨b, rfl, hb⟩
theorem rel2 {x y : Val} {l : List Value} (h : VsRel φ [x, y] l) : ∃ a b, l = [a, b] ∧ VRel φ x a ∧ VRel φ y b := by
  obtain ⟨b, s, rfl, hb, hs⟩ := h
  obtain ⟨c, rfl, hc⟩ := rel1 hs
  exact ⟨b, c, rfl, hb, hc⟩

/-- a value, run by one monadic operation -/
theorem Done.of_sem {r : Sem Value} {v : Val} {s' : St} (h : ∃ φ' v' w', r.run P w = .ok v' w' ∧ VRel φ' v v' ∧ Post W0 φ s w φ' s' w') :
    Done P W0 φ s w ((do pure (Go.Next.value (← r)) : Sem Go.Next).run P w) v s' := by
  obtain ⟨φ', v', w', h1, h2, h3⟩ := h
  exact ⟨φ', v', w', .inl (by simp [h1]), h2, h3⟩

theorem appT {e : TypeId} {n b : Nat} (φ : Phi) {z : List Val} (hz : zeroOf P e = some z) (hn : sizeOf P e = some n) (hb : bytesOf P e = some b) {argTypes : Array TypeId} {st xt : TypeId} {d : Go.TypeDesc} (h0 : argTypes[0]? = some st) (h1 : argTypes[1]? = some xt)
    (hs : P.underlying st = some (.slice e)) (hx : P.underlying xt = some d) (hd : ∀ k, d ≠ .int k) : ∃ i zv, AppT P argTypes e n b i zv := by
  obtain ⟨i, zv, hi, hzv, hrel, hzl, _⟩ := zeroOf_some hz φ
  have e1 : i.size = n := by simp [sizeOf, hi] at hn; exact hn
  have e2 : i.bytes = b := by simp [bytesOf, hi] at hb; exact hb
  exact ⟨i, zv, ⟨st, h0, hs⟩, ⟨xt, d, h1, hx, hd⟩, hi, e1, e2, hzv, by have := hrel.length; simp at this; omega⟩

theorem minmax_sound : ∀ (l : List Val) (mx : Bool) (x v : Val) (l' : List Value) (x' : Value), VRel φ x x' → VsRel φ l l' → minmax mx x l = some v → ∀ w : World,
    ∃ v', (l'.foldlM (if mx then Go.Builtin.max2 else Go.Builtin.min2) x').run P w = .ok v' w ∧ VRel φ v v'
  | [], mx, x, v, l', x', hx, hl, h, w => by
    rw [show l' = [] from hl]
    simp [minmax] at h; subst h
    exact ⟨x', rfl, hx⟩
  | y :: l, mx, x, v, l', x', hx, hl, h, w => by
    obtain ⟨y', s', rfl, hy, hs⟩ := hl
    unfold minmax at h
    split at h
    · rename_i heq; cases heq
    · rename_i k n k' n' r heq
      injection heq with e1 e2
      subst e1; subst e2
      split at h
      case isFalse => cases h
      rename_i hk
      subst hk
      rw [show x' = _ from hx, show y' = _ from hy]
      cases mx
      · obtain ⟨v', h1, h2⟩ := minmax_sound l false (.int k (if n' < n then n' else n)) v s' (.int k (if n' < n then n' else n)) rfl hs h w
        refine ⟨v', ?_, h2⟩
        simp only [Bool.false_eq_true, if_false] at h1 ⊢
        rw [List.foldlM_cons]
        simp only [Go.Sem.run_bind, Go.Builtin.min2, Go.Sem.run_pure, Go.Result.andThen_ok, h1]
      · obtain ⟨v', h1, h2⟩ := minmax_sound l true (.int k (if n < n' then n' else n)) v s' (.int k (if n < n' then n' else n)) rfl hs h w
        refine ⟨v', ?_, h2⟩
        simp only [if_true] at h1 ⊢
        rw [List.foldlM_cons]
        simp only [Go.Sem.run_bind, Go.Builtin.max2, Go.Sem.run_pure, Go.Result.andThen_ok]
        have e1 : (if n' > n then n' else n) = (if n < n' then n' else n) := rfl
        rw [e1, h1]
    · cases h

theorem toUInt8 (c : UInt8) : UInt8.ofNat ((c.toNat : Int)).toNat = c := by simp

/-- bytes that are read out of cells -/
theorem bytes_sound : ∀ {l : List Val} {b : List UInt8} {l' : List Value}, optBytes l = some b → VsRel φ l l' → ∃ ns : List Int, l' = ns.map (fun n => Value.int .u8 n) ∧ b = ns.map (fun n => UInt8.ofNat n.toNat)
  | [], b, l', h, hr => by
    rw [show l' = [] from hr]
    simp [optBytes] at h; subst h
    exact ⟨[], rfl, rfl⟩
  | x :: l, b, l', h, hr => by
    obtain ⟨y, s, rfl, hy, hs⟩ := hr
    unfold optBytes at h
    split at h
    · rename_i heq; cases heq
    · rename_i n r heq
      injection heq with h1 h2
      subst h1; subst h2
      simp only [Option.map_eq_some_iff] at h
      obtain ⟨b', hb, rfl⟩ := h
      obtain ⟨ns, h3, h4⟩ := bytes_sound hb hs
      exact ⟨n :: ns, by rw [show y = _ from hy, h3]; rfl, by rw [h4]; rfl⟩
    · cases h

theorem MRel.length : ∀ {l : List MEnt} {l' : List Go.MapEntry}, MRel φ l l' → l'.length = l.length
  | [], _, h => by rw [show _ = [] from h]; rfl
  | _ :: _, _, ⟨_, _, e, _, _, _, h⟩ => by rw [e]; simp [MRel.length h]

theorem run_getObj_map {c : Nat} {es : Array Go.MapEntry} {clock : Nat} (h : w.heap[c]? = some (.map es clock)) : (Go.getObj c).run P w = .ok (.map es clock) w := by
  simp [Go.getObj, Sem.run, h]

theorem storeN_nil {a : Nat × Nat} {s' : St} (hs : s.storeN a [] = some s') : True := trivial

theorem slice_addr (h : R W0 φ s w) {ad : Nat × Nat} {n : Nat} {cap : Cap} {v1 : Value} (hv1 : VRel φ (.slice (some ad) n cap) v1) (hn : 0 < n) : ∃ a' c', v1 = .slice (some a') n c' ∧ ARel φ ad a' := by
  cases cap with
  | ex c => obtain ⟨a', e2, hr2⟩ := hv1; exact ⟨a', c, e2, hr2⟩
  | op e =>
    obtain ⟨a', c', e2, hr2⟩ := hv1
    refine ⟨a', c', e2, ?_⟩
    unfold SRel at hr2
    unfold ARel
    split at hr2
    · rcases hr2.2.2.2 with h4 | h4
      · exact h4
      · omega
    · trivial
    · exact hr2.elim

theorem copy_sound (h : R W0 φ s w) {ts : Array TypeId} {st e : TypeId} {size : Nat} (hst : ts[0]? = some st) (hs : P.underlying st = some (.slice e)) (hn : sizeOf P e = some size) (ty : TypeId) {x y v : Val} {x' y' : Value} {s' : St}
    (hx : VRel φ x x') (hy : VRel φ y y')
    (he : copyV s size x y = some (v, s')) : ∃ φ' v' w', (Go.Builtin.copy_ ts ty #[x', y']).run P w = .ok v' w' ∧ VRel φ' v v' ∧ Post W0 φ s w φ' s' w' := by
  unfold copyV at he
  split at he
  case h_2 => cases he
  rename_i ad dl cap
  split at he
  case h_2 => cases he
  rename_i n hsl
  -- the source's length
  have hlen : (Go.Builtin.lenOf y').run P w = .ok n w := by
    unfold srcLen at hsl
    split at hsl
    · rename_i a1 n1 c1
      injection hsl with hsl; subst hsl
      cases a1 with
      | none => cases c1 with
        | ex c => rw [show y' = _ from hy]; rfl
        | op e => exact (show False from hy).elim
      | some a1 => obtain ⟨a', c', rfl, _⟩ := hy.slice_some; rfl
    · rename_i b
      injection hsl with hsl; subst hsl
      rw [show y' = _ from hy]
      simp [Go.Builtin.lenOf, bytes_size]
    · cases hsl
  have hdst : ∃ base c', x' = .slice base dl c' ∧ (∀ a1, ad = some a1 → 0 < dl → ∃ a', base = some a' ∧ ARel φ a1 a') ∧ (ad = none → base = none) := by
    cases ad with
    | none => cases cap with
      | ex c => exact ⟨none, c, hx, fun a1 h1 => by (cases h1), fun _ => rfl⟩
      | op e => exact (show False from hx).elim
    | some a1 =>
      by_cases hd0 : 0 < dl
      · obtain ⟨a', c', e2, hA⟩ := slice_addr h hx hd0
        exact ⟨some a', c', e2, fun a2 h1 _ => by injection h1 with h1; subst h1; exact ⟨a', rfl, hA⟩, fun h1 => by cases h1⟩
      · obtain ⟨a', c', e2, _⟩ := hx.slice_some
        exact ⟨some a', c', e2, fun _ _ h1 => absurd h1 hd0, fun h1 => by cases h1⟩
  obtain ⟨base, c', rfl, hbase, _⟩ := hdst
  have hcore : ∀ (cells : List Value), (Go.Builtin.firstCells size (Nat.min n dl) y').run P w = .ok cells.toArray w →
      (Go.Builtin.copy_ ts ty #[.slice base dl c', y']).run P w = (match base with
        | some a => (Go.storeCells a cells).run P w
        | none => .ok () w).andThen fun _ w' => .ok (Go.goInt (Nat.min n dl : Nat)) w' := by
    intro cells hcells
    simp only [Go.Builtin.copy_, hst, Go.Sem.run_bind, run_under hs, Go.Result.andThen_ok, List.getElem?_toArray, List.getElem?_cons_zero, List.getElem?_cons_succ, hlen, run_size hn, hcells]
    cases base with
    | none => simp
    | some a => simp
  split at he
  · rename_i h0
    simp only [Option.some.injEq, Prod.mk.injEq] at he
    obtain ⟨rfl, rfl⟩ := he
    have hc0 : (Go.Builtin.firstCells size (Nat.min n dl) y').run P w = .ok ([] : List Value).toArray w := by
      rw [h0]
      unfold srcLen at hsl
      split at hsl
      · rename_i a1 n1 c1
        cases a1 with
        | none => cases c1 with
          | ex c => rw [show y' = _ from hy]; simp [Go.Builtin.firstCells]
          | op e => exact (show False from hy).elim
        | some a1 => obtain ⟨a', c', rfl, _⟩ := hy.slice_some; simp [Go.Builtin.firstCells, Go.loadCells, Go.loadCellsFrom]
      · rename_i b
        rw [show y' = _ from hy]
        simp [Go.Builtin.firstCells]
      · cases hsl
    refine ⟨φ, .int .i64 0, w, ?_, rfl, Post.refl h⟩
    rw [hcore _ hc0, h0]
    cases base with
    | none => rfl
    | some a => rfl
  · rename_i h0
    have hdl : 0 < dl := Nat.lt_of_lt_of_le (Nat.pos_of_ne_zero h0) (Nat.min_le_right n dl)
    have hn0 : 0 < n := Nat.lt_of_lt_of_le (Nat.pos_of_ne_zero h0) (Nat.min_le_left n dl)
    cases ad with
    | none => cases he
    | some a1 =>
    cases htk : srcTake s size (Nat.min n dl) y with
    | none => rw [htk] at he; cases he
    | some l =>
    rw [htk] at he
    simp only [Option.map_eq_some_iff, Prod.mk.injEq] at he
    obtain ⟨s1, hs1, rfl, rfl⟩ := he
    obtain ⟨a', rfl, hA⟩ := hbase a1 rfl hdl
    have hsrc : ∃ l', (Go.Builtin.firstCells size (Nat.min n dl) y').run P w = .ok l'.toArray w ∧ VsRel φ l l' := by
      unfold srcTake at htk
      split at htk
      · rename_i a2 n2 c2
        unfold srcLen at hsl
        injection hsl with hsl; subst hsl
        obtain ⟨a', c', rfl, hA2⟩ := slice_addr h hy hn0
        obtain ⟨l', h3, h4, _⟩ := run_loadN (P := P) h hA2 htk
        exact ⟨l', by simpa [Go.Builtin.firstCells] using h3, h4⟩
      · rename_i b
        split at htk
        case isFalse => cases htk
        rename_i hs1
        injection htk with htk; subst htk
        unfold srcLen at hsl
        injection hsl with hsl; subst hsl
        rw [show y' = _ from hy]
        refine ⟨(b.take (Nat.min b.length dl)).map fun c => .int .u8 c.toNat, ?_, bytesVals_rel _⟩
        have e2 : (ByteArray.mk b.toArray).extract 0 (Nat.min b.length dl) = ByteArray.mk (b.take (Nat.min b.length dl)).toArray := by rw [bytes_extract]; simp
        simp only [Go.Builtin.firstCells, e2]
        simp
      · cases htk
    obtain ⟨l', h3, h4⟩ := hsrc
    obtain ⟨w', h5, h6⟩ := run_storeN (P := P) h hA h4 hs1
    refine ⟨φ, Go.goInt (Nat.min n dl : Nat), w', ?_, rfl, h6⟩
    rw [hcore _ h3]
    simp only [h5, Go.Result.andThen_ok]

theorem unsafeStr_sound (h : R W0 φ s w) {ts : Array TypeId} {st u : TypeId} (hst : ts[0]? = some st) (hs : P.underlying st = some (.pointer u)) (hn : sizeOf P u = some 1) (ty : TypeId) {x y v : Val} {x' y' : Value} {s' : St}
    (hx : VRel φ x x') (hy : VRel φ y y')
    (he : unsafeStrV s u x y = some (v, s')) : ∃ φ' v' w', (Go.Builtin.unsafeString_ ts ty #[x', y']).run P w = .ok v' w' ∧ VRel φ' v v' ∧ Post W0 φ s w φ' s' w' := by
  unfold unsafeStrV at he
  split at he
  case h_2 => cases he
  rename_i k n
  split at he
  case isFalse => cases he
  rename_i hn
  rw [show y' = _ from hy]
  have hneg : ¬ n < 0 := by omega
  have hbig : ¬ n > IntKind.i64.max := by rw [maxI64]; omega
  have core : ∀ p, Go.Builtin.unsafeString_ ts ty #[.pointer p, .int k n] = (do
      let n ← Go.asInt (.int k n)
      let some pt := ts[0]? | Go.stuck "unsafe.String: no argument types"
      if n < 0 then Go.runtimePanic (.error "unsafe.String: len out of range")
      if n > IntKind.i64.max then Go.unsupported (.unsafePointer "String: a length above the largest int")
      match p with
      | none =>
        if n = 0 then pure (.string .empty)
        else Go.runtimePanic (.error "unsafe.String: ptr is nil and len is not zero")
      | some a =>
        if n = 0 then pure (.string .empty)
        else if ← Go.variablesAt a (← Go.elemOf pt) n.toNat then do
          let s ← Go.loadBytes a .empty n.toNat
          Go.freeze a n.toNat
          pure (.string s)
        else Go.unsupported (.unsafePointer "String: not so many bytes at ptr")) := fun p => rfl
  have hempty : VRel φ (.str []) (.string .empty) := rfl
  split at he
  · split at he
    case isFalse => cases he
    rename_i hn0
    simp only [Option.some.injEq, Prod.mk.injEq] at he
    obtain ⟨rfl, rfl⟩ := he
    rw [show x' = _ from hx]
    refine ⟨φ, .string .empty, w, ?_, hempty, Post.refl h⟩
    rw [core]
    simp [Go.asInt, Go.asIntOf, hst, hn0, maxI64]
  · rename_i ad
    obtain ⟨a', rfl, hA⟩ := hx
    split at he
    · rename_i hn0
      simp only [Option.some.injEq, Prod.mk.injEq] at he
      obtain ⟨rfl, rfl⟩ := he
      refine ⟨φ, .string .empty, w, ?_, hempty, Post.refl h⟩
      rw [core]
      simp [Go.asInt, Go.asIntOf, hst, hn0, maxI64]
    · rename_i hn0
      split at he
      case h_2 => cases he
      rename_i r l hr hl
      split at he
      case isFalse => cases he
      rename_i hcond
      obtain ⟨hel, hfl, hro, hcl⟩ := hcond
      split at he
      case h_2 => cases he
      rename_i b hb
      simp only [Option.some.injEq, Prod.mk.injEq] at he
      obtain ⟨rfl, rfl⟩ := he
      obtain ⟨c, sz, arr, et, fr, hcc, hw, hrow⟩ := h.row hr hA.notUnk
      obtain rfl : et = u := hrow.2.2.2.2.2 u hel
      have hfr : fr = (0, 0) := hrow.2.2.2.2.1 hcl
      subst hfr
      have hlen : ad.2 + n.toNat ≤ r.cs.length := by
        unfold St.loadN at hl; rw [hr] at hl
        simp only at hl
        split at hl
        · assumption
        · cases hl
      have hcs := hrow.2.1
      have hsz := hrow.1
      have hseg : VsRel φ l ((arr.toList.drop ad.2).take n.toNat) := by
        unfold St.loadN at hl; rw [hr] at hl
        simp only [hlen, if_true, Option.some.injEq] at hl
        subst hl
        exact hrow.seg hlen
      obtain ⟨ns, hns, hb'⟩ := bytes_sound hb hseg
      subst hb'
      have hnl : ns.length = n.toNat := by
        have := congrArg List.length hns
        simp at this; omega
      have hcell : ∀ j x, ns[j]? = some x → w.cell? ⟨c, ad.2 + j, none⟩ = some (.int .u8 x) := by
        intro j x hj
        rw [cell_of hw]
        have hjl : j < n.toNat := by
          rcases Nat.lt_or_ge j ns.length with h3 | h3
          · omega
          · rw [List.getElem?_eq_none h3] at hj; cases hj
        have := congrArg (fun l : List Value => l[j]?) hns
        simp only [List.getElem?_take_of_lt hjl, List.getElem?_drop, List.getElem?_map, hj, Option.map_some] at this
        simpa using this
      have hva : (Go.variablesAt a' et n.toNat).run P w = .ok true w := by
        rw [hA.eq hcc]
        simp only [Go.variablesAt, Go.Sem.run_bind, Go.run_program, Go.run_shape, Go.Result.andThen_ok, World.shape?, hw, Go.Sem.run_pure]
        have hco : P.cellsOf et = 1 := by
          simp only [sizeOf, Option.map_eq_some_iff] at hn
          obtain ⟨i, hi, hi1⟩ := hn
          simp [Program.cellsOf, hi, hi1]
        obtain ⟨d, hd⟩ : ∃ d, P.depth = d + 1 := ⟨2 * (P.types.size + Go.Made.depth) + 1, rfl⟩
        rw [hd]
        have hle : ad.2 + n.toNat ≤ arr.size := by omega
        have hrow1 : Go.rowAt P (Go.sameLayout P (d + 1) · et) (d + 1) et arr.size ad.2 n.toNat = true := by
          unfold Go.rowAt
          simp [hco, Go.sameLayout, hle, Nat.mod_one]
        simp only [Go.liesAt, hd, hco, Nat.div_one, hrow1, Bool.true_or]
      have hld : ∀ (ns : List Int) (o : Nat) (acc : ByteArray), (∀ (j : Nat) x, ns[j]? = some x → w.cell? ⟨c, o + j, none⟩ = some (.int .u8 x)) →
          (Go.loadBytes ⟨c, o, none⟩ acc ns.length).run P w = .ok (acc ++ ⟨(ns.map fun n => UInt8.ofNat n.toNat).toArray⟩) w := by
        intro ns
        induction ns with
        | nil => intro o acc _; simp only [List.length_nil, Go.loadBytes, Go.Sem.run_pure, List.map_nil]; congr 1; apply ByteArray.ext; simp [ByteArray.data_append]
        | cons x ns ih =>
          intro o acc hc
          have h0 := hc 0 x (by simp)
          simp only [Nat.add_zero] at h0
          have e1 : (⟨c, o, none⟩ : Addr).add 1 = ⟨c, o + 1, none⟩ := addr_add c o 1
          simp only [List.length_cons, Go.loadBytes, Go.Sem.run_bind, Go.run_load, h0, Go.Result.andThen_ok, e1]
          rw [ih (o + 1) _ (fun j y hj => by have := hc (j + 1) y (by simpa using hj); rw [show o + 1 + j = o + (j + 1) by omega]; exact this)]
          congr 1
          apply ByteArray.ext
          simp [ByteArray.data_append, ByteArray.data_push]
      have hfz : (w.freeze a' n.toNat).heap = w.heap.setIfInBounds c (.cells arr et (ad.2, ad.2 + n.toNat)) := by
        rw [hA.eq hcc]
        unfold World.freeze
        rw [if_neg (by omega)]
        apply Array.ext_getElem?
        intro j
        have hlt : c < w.heap.size := (Array.getElem?_eq_some_iff.1 hw).1
        by_cases hj : c = j
        · subst hj
          rw [Array.getElem?_setIfInBounds_self_of_lt hlt, Array.getElem?_modify, if_pos rfl, hw]
          simp
        · rw [Array.getElem?_setIfInBounds_ne hj, Array.getElem?_modify, if_neg hj]
      have hlt : c < w.heap.size := (Array.getElem?_eq_some_iff.1 hw).1
      refine ⟨φ, .string ⟨(ns.map fun (n : Int) => UInt8.ofNat n.toNat).toArray⟩, w.freeze a' n.toNat, ?_, rfl, ?_⟩
      · rw [core]
        simp only [Go.asInt, Go.asIntOf, Go.Sem.run_bind, Go.Sem.run_pure, Go.Result.andThen_ok, hst, if_neg hneg, if_neg hbig, if_neg hn0, Go.elemOf, run_under hs]
        rw [hva]
        simp only [Go.Result.andThen_ok, if_true, Go.Sem.run_bind]
        have := hld ns ad.2 .empty hcell
        rw [hnl] at this
        rw [hA.eq hcc, this]
        simp
      · refine h.put hcc (row?_some hr) hro hfl hro hfz (by unfold World.freeze; rw [if_neg (by omega)]) (by unfold World.freeze; rw [if_neg (by omega)]) ?_
        refine ⟨arr, et, (ad.2, ad.2 + n.toNat), by rw [hfz, Array.getElem?_setIfInBounds_self_of_lt hlt], hsz, hcs, hrow.2.2.1, ?_, ?_, hrow.2.2.2.2.2⟩
        · intro _ i hi _ hh
          have h1 : Nat.max r.frz (ad.2 + n.toNat) ≤ i := hi
          have h2 := Nat.le_trans (Nat.le_max_right r.frz (ad.2 + n.toNat)) h1
          simp at hh; omega
        · intro hf; cases hf
  · cases he

section ops
variable {E : Env} {a : Act} {o : Oper} {v : Val} {s' : St}

theorem sound_builtin (h : R W0 φ s w) (hE : ERel φ E a.tmps) (hG : GRel φ P.globals.size) {b : Go.Builtin} {args : Array Operand} {argTypes : Array TypeId} (hop : o.op = .call { callee := .builtin b, args := args, argTypes := argTypes }) {o' : AOp} (hc : compOp P o = some o')
    (he : evOp o' E s = some (v, s')) : Done P W0 φ s w ((Go.execOp a.eval o).run P w) v s' := by
  have open1 : ∀ (m : Array Value → Sem Value), (∀ consts, Go.builtin b argTypes o.type consts (args.map a.eval) = (do pure (Go.Next.value (← m (args.map a.eval))))) →
      (∃ φ' v' w', (m (args.map a.eval)).run P w = .ok v' w' ∧ VRel φ' v v' ∧ Post W0 φ s w φ' s' w') → Done P W0 φ s w ((Go.execOp a.eval o).run P w) v s' := by
    intro m hm hd
    have := Done.of_sem (P := P) (W0 := W0) (φ := φ) (s := s) (w := w) hd
    have e : (Go.execOp a.eval o).run P w = (do pure (Go.Next.value (← m (args.map a.eval))) : Sem Go.Next).run P w := by
      simp only [Go.execOp, hop, Go.resolve, Go.Sem.run_bind, Go.Sem.run_pure, Go.Result.andThen_ok, Go.invoke, hm]
    rw [e]; exact this
  simp only [compOp, hop] at hc
  split at hc
  case h_2 => cases hc
  rename_i l hl
  have hr := opds_sound hE hG hl
  unfold compBuiltin at hc
  split at hc
  · -- append
    rename_i sx xx
    obtain ⟨v1, v2, e1, hv1, hv2⟩ := rel2 hr
    split at hc
    · rename_i o1 hc1
      injection hc with hc; subst hc
      unfold compAppend at hc1
      split at hc1
      case h_2 => cases hc1
      rename_i e hst
      split at hc1
      case h_2 => cases hc1
      rename_i z n bb hz hn hb
      split at hc1
      case isFalse => cases hc1
      rename_i hpos
      injection hc1 with hc1; subst hc1
      simp only [evOp] at he
      split at he
      case h_2 => cases he
      rename_i m news hsrc
      unfold under0 at hst
      simp only [Option.bind_eq_some_iff] at hst
      obtain ⟨st, hst, hs⟩ := hst
      have hx : ∃ xt d, argTypes[1]? = some xt ∧ P.underlying xt = some d ∧ ∀ k, d ≠ .int k := by
        have h2 := hpos.2
        unfold under1 at h2
        cases h3 : argTypes[1]? with
        | none => rw [h3] at h2; simp [notInt] at h2
        | some xt =>
          rw [h3] at h2
          simp only [Option.bind_some] at h2
          cases h4 : P.underlying xt with
          | none => rw [h4] at h2; simp [notInt] at h2
          | some d =>
            rw [h4] at h2
            refine ⟨xt, d, rfl, h4, ?_⟩
            rintro k rfl
            simp [notInt] at h2
      obtain ⟨xt, d, hxt, hxd, hdk⟩ := hx
      obtain ⟨i, zv, T⟩ := appT (P := P) φ hz hn hb hst hxt hs hxd hdk
      refine open1 (fun args => Go.Builtin.append_ argTypes o.type args) (fun _ => rfl) ?_
      rw [args_eq e1]
      exact appendV_sound h T hpos.1 o.type hv1 hv2 hsrc he
    · clear open1
      have open1 : ∀ (m : Array Value → Sem Value), (∀ consts, Go.builtin .append argTypes o.type consts (args.map a.eval) = (do pure (Go.Next.value (← m (args.map a.eval))))) →
          (∃ φ' v' w', (m (args.map a.eval)).run P w = .ok v' w' ∧ VRel φ' v v' ∧ Post W0 φ s w φ' s' w') → Done P W0 φ s w ((Go.execOp a.eval o).run P w) v s' := by
        intro m hm hd
        have := Done.of_sem (P := P) (W0 := W0) (φ := φ) (s := s) (w := w) hd
        have e : (Go.execOp a.eval o).run P w = (do pure (Go.Next.value (← m (args.map a.eval))) : Sem Go.Next).run P w := by
          simp only [Go.execOp, hop, Go.resolve, Go.Sem.run_bind, Go.Sem.run_pure, Go.Result.andThen_ok, Go.invoke, hm]
        rw [e]; exact this
      unfold compAppendMk at hc
      split at hc
      case h_2 => cases hc
      rename_i e hst
      split at hc
      case h_2 => cases hc
      rename_i z n bb hz hn hb hxt
      split at hc
      case isFalse => cases hc
      rename_i hpos
      injection hc with hc; subst hc
      simp only [evOp] at he
      split at he
      case h_2 => cases he
      rename_i m hm
      split at he
      case isFalse => cases he
      rename_i hmb
      rw [hm] at hv2
      have e2 : v2 = _ := hv2
      subst e2
      unfold under0 at hst
      simp only [Option.bind_eq_some_iff] at hst
      obtain ⟨st, hst, hs⟩ := hst
      unfold under1 at hxt
      simp only [Option.bind_eq_some_iff] at hxt
      obtain ⟨xt, hxt, hxu⟩ := hxt
      obtain ⟨i, zv, hi, hzv, hrel, hzl, _⟩ := zeroOf_some hz φ
      have e1' : i.size = n := by simp [sizeOf, hi] at hn; exact hn
      have e2' : i.bytes = bb := by simp [bytesOf, hi] at hb; exact hb
      have T : AppZ P argTypes e n bb i zv := ⟨⟨st, hst, hs⟩, ⟨xt, hxt, hxu⟩, hi, e1', e2', hzv, by have := hrel.length; simp at this; omega⟩
      refine open1 (fun args => Go.Builtin.append_ argTypes o.type args) (fun _ => rfl) ?_
      rw [args_eq e1]
      exact appendMk_sound h T hrel hpos hmb.1 hmb.2.1 hmb.2.2 o.type hv1 he
  · -- clear
    rename_i xx
    obtain ⟨v1, e1, hv1⟩ := rel1 hr
    unfold compClear at hc
    split at hc
    case h_2 => cases hc
    rename_i e hst
    simp only [Option.map_eq_some_iff] at hc
    obtain ⟨z, hz, rfl⟩ := hc
    unfold under0 at hst
    simp only [Option.bind_eq_some_iff] at hst
    obtain ⟨st, hst, hs⟩ := hst
    obtain ⟨i, zv, hi, hzv, hrel, hzl, _⟩ := zeroOf_some hz φ
    refine open1 (fun args => Go.Builtin.clear_ argTypes o.type args) (fun _ => rfl) ?_
    rw [args_eq e1]
    simp only [evOp] at he
    have hw : ∀ w : World, (Go.underlying st).run P w = _ := fun w => run_under hs w
    have hun : VRel φ (.tup []) (.tuple #[]) := ⟨_, rfl, rfl⟩
    split at he
    · rename_i n cap hx
      simp only [Option.some.injEq, Prod.mk.injEq] at he
      obtain ⟨rfl, rfl⟩ := he
      rw [hx] at hv1
      cases cap with
      | op e => exact (show False from hv1).elim
      | ex c =>
        have e2 : v1 = _ := hv1
        subst e2
        exact ⟨φ, .tuple #[], w, by simp [Go.Builtin.clear_, hst, hw], hun, Post.refl h⟩
    · rename_i ad n cap hx
      rw [hx] at hv1
      split at he
      · rename_i hn0
        subst hn0
        simp only [Option.some.injEq, Prod.mk.injEq] at he
        obtain ⟨rfl, rfl⟩ := he
        obtain ⟨a', c', rfl, _⟩ := hv1.slice_some
        exact ⟨φ, .tuple #[], w, by simp [Go.Builtin.clear_, hst, hw], hun, Post.refl h⟩
      · rename_i hn0
        simp only [Option.map_eq_some_iff, Prod.mk.injEq] at he
        obtain ⟨s1, hs1, rfl, rfl⟩ := he
        obtain ⟨a', c', rfl, hA⟩ := slice_addr h hv1 (Nat.pos_of_ne_zero hn0)
        have hzr : VsRel φ (zeros z n) (Go.Builtin.zeroCells zv.cells n).toList := by
          have hzs : zv.cells.size = z.length := by have := hrel.length; simpa using this
          have := arr_zeros zv z.length n hzs
          have e1 : (Go.Builtin.zeroCells zv.cells n).toList = (List.replicate n zv.cells.toList).flatten := by
            rw [← this]; simp only [Go.Builtin.zeroCells, hzs]
          rw [e1]; exact zeros_rel hrel _
        obtain ⟨w', h2, h3⟩ := run_storeN (P := P) h hA hzr hs1
        refine ⟨φ, .tuple #[], w', ?_, hun, h3⟩
        obtain ⟨k, rfl⟩ : ∃ k, n = k + 1 := ⟨n - 1, by omega⟩
        simp only [Go.Builtin.clear_, hst, Go.Sem.run_bind, hw, Go.Result.andThen_ok, List.getElem?_toArray, List.getElem?_cons_zero, run_zero hi hzv, h2, Go.Sem.run_pure]
    · cases he
  · -- copy
    rename_i dx xx
    obtain ⟨v1, v2, e1, hv1, hv2⟩ := rel2 hr
    refine open1 (fun args => Go.Builtin.copy_ argTypes o.type args) (fun _ => rfl) ?_
    rw [args_eq e1]
    unfold compCopy at hc
    split at hc
    case h_2 => cases hc
    rename_i e hst
    unfold under0 at hst
    simp only [Option.bind_eq_some_iff] at hst
    obtain ⟨st, hst, hs⟩ := hst
    simp only [Option.map_eq_some_iff] at hc
    obtain ⟨n, hn, rfl⟩ := hc
    simp only [evOp] at he
    exact copy_sound (P := P) h hst hs hn o.type hv1 hv2 he
  · -- len
    rename_i xx
    obtain ⟨v1, e1, hv1⟩ := rel1 hr
    refine open1 (fun args => Go.Builtin.len_ argTypes o.type args) (fun _ => rfl) ?_
    rw [args_eq e1]
    unfold compLen at hc
    split at hc
    case h_5 => cases hc
    all_goals
      rename_i hst
      unfold under0 at hst
      simp only [Option.bind_eq_some_iff] at hst
      obtain ⟨st, hst, hs⟩ := hst
      injection hc with hc; subst hc
      simp only [evOp] at he
      have hw : ∀ w : World, (Go.underlying st).run P w = _ := fun w => run_under hs w
    · split at he
      case h_2 => cases he
      rename_i b heq
      simp only [Option.some.injEq, Prod.mk.injEq] at he
      obtain ⟨rfl, rfl⟩ := he
      rw [heq] at hv1
      rw [show v1 = _ from hv1]
      exact ⟨φ, .int .i64 b.length, w, by simp [Go.Builtin.len_, hst, hw, bytes_size, Go.goInt], rfl, Post.refl h⟩
    · split at he
      case h_2 => cases he
      rename_i ad n cap heq
      simp only [Option.some.injEq, Prod.mk.injEq] at he
      obtain ⟨rfl, rfl⟩ := he
      rw [heq] at hv1
      have hsl : ∃ ad' c', v1 = .slice ad' n c' := by
        cases ad with
        | none => cases cap with
          | ex c => exact ⟨_, _, hv1⟩
          | op e => exact (show False from hv1).elim
        | some ad => obtain ⟨a', c', e2, _⟩ := hv1.slice_some; exact ⟨_, _, e2⟩
      obtain ⟨ad', c', rfl⟩ := hsl
      exact ⟨φ, .int .i64 n, w, by simp [Go.Builtin.len_, hst, hw, Go.goInt], rfl, Post.refl h⟩
    · rename_i n elem
      simp only [Option.some.injEq, Prod.mk.injEq] at he
      obtain ⟨rfl, rfl⟩ := he
      exact ⟨φ, .int .i64 n, w, by simp [Go.Builtin.len_, hst, hw, Go.goInt], rfl, Post.refl h⟩
    · split at he
      case h_3 => cases he
      · rename_i heq
        simp only [Option.some.injEq, Prod.mk.injEq] at he
        obtain ⟨rfl, rfl⟩ := he
        rw [heq] at hv1
        rw [show v1 = _ from hv1]
        exact ⟨φ, .int .i64 0, w, by simp [Go.Builtin.len_, hst, hw, Go.goInt], rfl, Post.refl h⟩
      · rename_i r heq
        split at he
        case h_2 => cases he
        rename_i es clock hg
        simp only [Option.some.injEq, Prod.mk.injEq] at he
        obtain ⟨rfl, rfl⟩ := he
        rw [heq] at hv1
        obtain ⟨c, rfl, hb⟩ := hv1
        obtain ⟨cc, sz, hcc⟩ := h.at_of_get hg (by intro hu; unfold BRel at hb; rw [hu] at hb; exact hb)
        unfold BRel at hb; rw [hcc] at hb
        have hb : c = cc := hb
        subst hb
        obtain ⟨es', hw1, hm⟩ := h.blk r c sz _ hcc hg
        refine ⟨φ, .int .i64 es.length, w, ?_, rfl, Post.refl h⟩
        have hlen := hm.length
        simp at hlen
        simp [Go.Builtin.len_, hst, hw, run_getObj_map hw1, Go.goInt, hlen]
  · -- cap
    rename_i xx
    obtain ⟨v1, e1, hv1⟩ := rel1 hr
    refine open1 (fun args => Go.Builtin.cap_ argTypes o.type args) (fun _ => rfl) ?_
    rw [args_eq e1]
    unfold compCap at hc
    split at hc
    case h_2 => cases hc
    rename_i e hst
    unfold under0 at hst
    simp only [Option.bind_eq_some_iff] at hst
    obtain ⟨st, hst, hs⟩ := hst
    injection hc with hc; subst hc
    simp only [evOp] at he
    split at he
    case h_2 => cases he
    rename_i ad n c heq
    simp only [Option.some.injEq, Prod.mk.injEq] at he
    obtain ⟨rfl, rfl⟩ := he
    rw [heq] at hv1
    have hsl : ∃ ad', v1 = .slice ad' n c := by
      cases ad with
      | none => exact ⟨_, hv1⟩
      | some ad => obtain ⟨a', e2, _⟩ := hv1; exact ⟨_, e2⟩
    obtain ⟨ad', rfl⟩ := hsl
    exact ⟨φ, .int .i64 c, w, by simp [Go.Builtin.cap_, hst, run_under hs, Go.goInt], rfl, Post.refl h⟩
  · -- unsafe.SliceData
    rename_i xx
    obtain ⟨v1, e1, hv1⟩ := rel1 hr
    refine open1 (fun args => Go.Builtin.unsafeSliceData_ argTypes o.type args) (fun _ => rfl) ?_
    rw [args_eq e1]
    injection hc with hc; subst hc
    simp only [evOp] at he
    split at he
    case h_3 => cases he
    · rename_i n cap heq
      simp only [Option.some.injEq, Prod.mk.injEq] at he
      obtain ⟨rfl, rfl⟩ := he
      rw [heq] at hv1
      cases cap with
      | ex c => rw [show v1 = _ from hv1]; exact ⟨φ, .pointer none, w, rfl, rfl, Post.refl h⟩
      | op e => exact (show False from hv1).elim
    · rename_i ad n cap heq
      split at he
      case isFalse => cases he
      rename_i hn
      simp only [Option.some.injEq, Prod.mk.injEq] at he
      obtain ⟨rfl, rfl⟩ := he
      rw [heq] at hv1
      have hsl : ∃ a' c', v1 = .slice (some a') n c' ∧ ARel φ ad a' ∧ c' ≠ 0 := by
        cases cap with
        | ex c => obtain ⟨a', e2, hr2⟩ := hv1; exact ⟨a', c, e2, hr2, fun h0 => hn.2 (by rw [h0])⟩
        | op e =>
          obtain ⟨a', c', e2, hr2⟩ := hv1
          unfold SRel at hr2
          refine ⟨a', c', e2, ?_, ?_⟩
          · unfold ARel
            split at hr2
            · rcases hr2.2.2.2 with h4 | h4
              · exact h4
              · omega
            · trivial
            · exact hr2.elim
          · split at hr2
            · omega
            · omega
            · exact hr2.elim
      obtain ⟨a', c', rfl, hA, hc0⟩ := hsl
      have e3 : Go.Builtin.unsafeSliceData_ argTypes o.type #[.slice (some a') n c'] = (if c' ≠ 0 then pure (.pointer (some a'))
        else do if (← Go.viewAt a'.block).isSome then pure (.pointer (some a')) else pure (.pointer (some ⟨← Go.newObj (.view a' (← Go.elemOf o.type)), 0, none⟩))) := rfl
      exact ⟨φ, .pointer (some a'), w, by show (Go.Builtin.unsafeSliceData_ argTypes o.type #[.slice (some a') n c']).run P w = _; rw [e3, if_pos hc0]; rfl, ⟨a', rfl, hA⟩, Post.refl h⟩
  · -- unsafe.String
    rename_i xx nn
    obtain ⟨v1, v2, e1, hv1, hv2⟩ := rel2 hr
    refine open1 (fun args => Go.Builtin.unsafeString_ argTypes o.type args) (fun _ => rfl) ?_
    rw [args_eq e1]
    unfold compUnsafeStr at hc
    split at hc
    case h_2 => cases hc
    rename_i u hst
    split at hc
    case h_2 => cases hc
    rename_i hu8 hsz
    unfold under0 at hst
    simp only [Option.bind_eq_some_iff] at hst
    obtain ⟨st, hst, hs⟩ := hst
    injection hc with hc; subst hc
    simp only [evOp] at he
    exact unsafeStr_sound (P := P) h hst hs hsz o.type hv1 hv2 he
  · -- min
    refine open1 (fun args => Go.Builtin.min_ argTypes o.type args) (fun _ => rfl) ?_
    injection hc with hc; subst hc
    simp only [evOp] at he
    split at he
    case h_2 => cases he
    rename_i y r heq
    rw [heq] at hr
    obtain ⟨y', s1, e1, hy, hs1⟩ := hr
    rw [args_eq e1]
    simp only [Option.map_eq_some_iff, Prod.mk.injEq] at he
    obtain ⟨v1, h1, rfl, rfl⟩ := he
    obtain ⟨v', h2, h3⟩ := minmax_sound (P := P) _ false _ _ _ _ hy hs1 h1 w
    exact ⟨φ, v', w, by simpa [Go.Builtin.min_] using h2, h3, Post.refl h⟩
  · -- max
    refine open1 (fun args => Go.Builtin.max_ argTypes o.type args) (fun _ => rfl) ?_
    injection hc with hc; subst hc
    simp only [evOp] at he
    split at he
    case h_2 => cases he
    rename_i y r heq
    rw [heq] at hr
    obtain ⟨y', s1, e1, hy, hs1⟩ := hr
    rw [args_eq e1]
    simp only [Option.map_eq_some_iff, Prod.mk.injEq] at he
    obtain ⟨v1, h1, rfl, rfl⟩ := he
    obtain ⟨v', h2, h3⟩ := minmax_sound (P := P) _ true _ _ _ _ hy hs1 h1 w
    exact ⟨φ, v', w, by simpa [Go.Builtin.max_] using h2, h3, Post.refl h⟩
  · cases hc
end ops
end Am
