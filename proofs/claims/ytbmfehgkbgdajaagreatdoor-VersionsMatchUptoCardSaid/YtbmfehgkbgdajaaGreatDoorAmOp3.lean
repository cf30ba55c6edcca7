/- Each operation of the abstract machine stands for the model's: numbers, strings, addresses. -/
import Derived.Test.YtbmfehgkbgdajaaGreatDoorAmOp2
set_option linter.all false
namespace Am
open Go (IntKind BinOp UnOp FuncId TypeId Program Value World Addr Obj Operand Oper Op Sem Act)

variable {W0 : Ctx} {φ : Phi} {s : St} {w w' : World} {P : Program}

theorem bytes_size (l : List UInt8) : (ByteArray.mk l.toArray).size = l.length := by simp [ByteArray.size]
theorem bytes_append (l r : List UInt8) : (ByteArray.mk l.toArray) ++ (ByteArray.mk r.toArray) = ByteArray.mk (l ++ r).toArray := by
  apply ByteArray.ext
  simp [ByteArray.data_append]
theorem bytes_extract (l : List UInt8) (a b : Nat) : (ByteArray.mk l.toArray).extract a b = ByteArray.mk ((l.drop a).take (b - a)).toArray := by
  apply ByteArray.ext
  rw [ByteArray.data_extract]
  simp [List.extract_eq_take_drop]
theorem bytes_get? (l : List UInt8) (i : Nat) : (ByteArray.mk l.toArray)[i]? = l[i]? := by
  by_cases h : i < l.length
  · rw [List.getElem?_eq_getElem h, getElem?_pos _ _ (by rw [bytes_size]; exact h)]
    rfl
  · rw [List.getElem?_eq_none (by omega), getElem?_neg _ _ (by rw [bytes_size]; exact h)]

theorem intOp_sound {op : BinOp} {k : IntKind} {x y : Int} {v : Val} (h : intOp op k x y = some v) (w : World) (t : TypeId) (h1 : op ≠ .shl) (h2 : op ≠ .shr) :
    ∃ v', (Go.binOp op t (.int k x) (.int k y)).run P w = .ok v' w ∧ VRel φ v v' := by
  cases op <;> simp [intOp, intCmp] at h h1 h2
  case add => subst h; exact ⟨_, by simp [Go.binOp, Go.Op.intArith], rfl⟩
  case sub => subst h; exact ⟨_, by simp [Go.binOp, Go.Op.intArith], rfl⟩
  case mul => subst h; exact ⟨_, by simp [Go.binOp, Go.Op.intArith], rfl⟩
  case quo => obtain ⟨h0, rfl⟩ := h; exact ⟨_, by simp [Go.binOp, Go.Op.intDiv, h0], rfl⟩
  case rem => obtain ⟨h0, rfl⟩ := h; exact ⟨_, by simp [Go.binOp, Go.Op.intDiv, h0], rfl⟩
  case and => subst h; exact ⟨_, by simp [Go.binOp, Go.Op.intBits], rfl⟩
  case or => subst h; exact ⟨_, by simp [Go.binOp, Go.Op.intBits], rfl⟩
  case xor => subst h; exact ⟨_, by simp [Go.binOp, Go.Op.intBits], rfl⟩
  case andNot => subst h; exact ⟨_, by simp [Go.binOp, Go.Op.intBits], rfl⟩
  case eql => subst h; exact ⟨_, by simp [Go.binOp, Go.Op.intCmp], rfl⟩
  case neq => subst h; exact ⟨_, by simp [Go.binOp, Go.Op.intCmp], rfl⟩
  case lss => subst h; exact ⟨_, by simp [Go.binOp, Go.Op.intCmp], rfl⟩
  case leq => subst h; exact ⟨_, by simp [Go.binOp, Go.Op.intCmp], rfl⟩
  case gtr => subst h; exact ⟨_, by simp [Go.binOp, Go.Op.intCmp], rfl⟩
  case geq => subst h; exact ⟨_, by simp [Go.binOp, Go.Op.intCmp], rfl⟩

theorem shiftOp_sound {op : BinOp} {k yk : IntKind} {x y : Int} {v : Val} (h : shiftOp op k x y = some v) (w : World) (t : TypeId) :
    ∃ v', (Go.binOp op t (.int k x) (.int yk y)).run P w = .ok v' w ∧ VRel φ v v' := by
  unfold shiftOp at h
  split at h
  · cases h
  · rename_i h0
    cases op <;> simp at h
    · subst h; exact ⟨_, by simp [Go.binOp, Go.Op.shift, h0], rfl⟩
    · subst h; exact ⟨_, by simp [Go.binOp, Go.Op.shift, h0], rfl⟩

theorem strOp_sound {op : BinOp} {x y : List UInt8} {v : Val} (h : strOp op x y = some v) (w : World) (t : TypeId) :
    ∃ v', (Go.binOp op t (.string ⟨x.toArray⟩) (.string ⟨y.toArray⟩)).run P w = .ok v' w ∧ VRel φ v v' := by
  cases op <;> simp [strOp] at h
  case add =>
    obtain ⟨h0, rfl⟩ := h
    refine ⟨.string ⟨(x ++ y).toArray⟩, ?_, rfl⟩
    have : ¬ (((ByteArray.mk x.toArray).size + (ByteArray.mk y.toArray).size : Nat) : Int) > IntKind.i64.max := by
      rw [bytes_size, bytes_size]
      simp [IntKind.max, IntKind.signed, IntKind.bits]; omega
    simp only [Go.binOp, Go.Op.stringOp, if_neg this, bytes_append]
    rfl
  all_goals
    subst h
    exact ⟨_, by simp [Go.binOp, Go.Op.stringOp], rfl⟩

theorem binOp_sound {op : BinOp} {x y v : Val} {x' y' : Value} (h : binOp op x y = some v) (h1 : op ≠ .eql) (h2 : op ≠ .neq) (hx : VRel φ x x') (hy : VRel φ y y') (w : World) (t : TypeId) :
    ∃ v', (Go.binOp op t x' y').run P w = .ok v' w ∧ VRel φ v v' := by
  unfold binOp at h
  split at h
  · rename_i k a k' b
    obtain rfl : x' = _ := hx
    obtain rfl : y' = _ := hy
    split at h
    · exact shiftOp_sound h w t
    · exact shiftOp_sound h w t
    · rename_i hs1 hs2
      split at h
      · rename_i hk; subst hk; exact intOp_sound h w t (by simpa using hs1) (by simpa using hs2)
      · cases h
  · obtain rfl : x' = _ := hx
    obtain rfl : y' = _ := hy
    exact strOp_sound h w t
  · split at h
    · exact absurd rfl h1
    · exact absurd rfl h2
    · cases h
  · cases h

theorem unOp_sound {op : UnOp} {x v : Val} {x' : Value} (h : unOp op x = some v) (hx : VRel φ x x') (w : World) : ∃ v', (Go.Op.unary op x').run P w = .ok v' w ∧ VRel φ v v' := by
  unfold unOp at h
  split at h
  · obtain rfl : x' = _ := hx
    cases op <;> simp at h
    · subst h; exact ⟨_, by simp [Go.Op.unary, Go.Op.intArith], rfl⟩
    · subst h; exact ⟨_, by simp [Go.Op.unary, Go.Op.intBits], rfl⟩
  · obtain rfl : x' = _ := hx
    cases op <;> simp at h
    subst h; exact ⟨_, by simp [Go.Op.unary], rfl⟩
  · cases h

section ops
variable {E : Env} {a : Act} {o : Oper} {v : Val} {s' : St}

theorem sound_un (h : R W0 φ s w) (hE : ERel φ E a.tmps) (hG : GRel φ P.globals.size) {u : UnOp} {t : TypeId} {x : Operand} (hop : o.op = .unOp u t x) {o' : AOp} (hc : compOp P o = some o')
    (he : evOp o' E s = some (v, s')) : Done P W0 φ s w ((Go.execOp a.eval o).run P w) v s' := by
  simp only [compOp, hop] at hc
  split at hc
  · cases hc
  · rename_i u' x' hne hx
    injection hc with hc; subst hc
    simp only [evOp, Option.map_eq_some_iff, Prod.mk.injEq] at he
    obtain ⟨v1, h1, rfl, rfl⟩ := he
    obtain ⟨v', h2, h3⟩ := unOp_sound (P := P) h1 (opd_sound hE hG hx) w
    refine Done.val h (v' := v') ?_ h3
    simp [Go.execOp, hop, h2]
  · cases hc

theorem sound_fieldAddr (h : R W0 φ s w) (hE : ERel φ E a.tmps) (hG : GRel φ P.globals.size) {t : TypeId} {x : Operand} {i : Nat} (hop : o.op = .fieldAddr t x i) {o' : AOp} (hc : compOp P o = some o')
    (he : evOp o' E s = some (v, s')) : Done P W0 φ s w ((Go.execOp a.eval o).run P w) v s' := by
  simp only [compOp, hop] at hc
  split at hc
  · rename_i fs x' ht hx
    split at hc
    · rename_i f hf
      split at hc
      · cases hc
      · rename_i n hn0 hn
        injection hc with hc; subst hc
        have hv := opd_sound hE hG hx
        simp only [evOp] at he
        split at he
        · rename_i ad had
          simp only [Option.some.injEq, Prod.mk.injEq] at he
          obtain ⟨rfl, rfl⟩ := he
          rw [had] at hv
          obtain ⟨a', e1, hr⟩ := hv
          refine Done.val h (v' := .pointer (some (a'.add f.offset))) ?_ ⟨_, rfl, hr.add _⟩
          have hne : n ≠ 0 := by rintro rfl; exact hn0 rfl
          simp [Go.execOp, hop, e1, Go.Instr.fieldAt, run_under ht, hf, Go.Instr.sureAddr, Go.fieldPlace, run_size hn, hne]
        · cases he
      · cases hc
    · cases hc
  · cases hc

theorem part_sound {t : TypeId} {k : Option Nat} (hk : loadK P t = some k) {cs : List Val} {cs' : Array Value} (hr : VsRel φ cs cs'.toList) {off : Nat} {v : Val} (hv : partN k cs off = some v) (w : World) :
    ∃ v', (Go.part t cs' off).run P w = .ok v' w ∧ VRel φ v v' := by
  rcases loadK_some hk with ⟨rfl, h1⟩ | ⟨n, rfl, h1, h2⟩
  · simp only [partN] at hv
    obtain ⟨v', h3, h4⟩ := hr.get hv
    simp at h3
    exact ⟨v', by simp [Go.part, run_isAgg h1, h3], h4⟩
  · simp only [partN] at hv
    split at hv
    · rename_i hle
      injection hv with hv; subst hv
      refine ⟨.agg (cs'.extract off (off + n)), by simp [Go.part, run_isAgg h1, run_size h2], ⟨_, rfl, ?_⟩⟩
      have := hr.seg off n
      simpa [List.extract_eq_take_drop] using this
    · cases hv

theorem sound_field (h : R W0 φ s w) (hE : ERel φ E a.tmps) (hG : GRel φ P.globals.size) {t : TypeId} {x : Operand} {i : Nat} (hop : o.op = .field t x i) {o' : AOp} (hc : compOp P o = some o')
    (he : evOp o' E s = some (v, s')) : Done P W0 φ s w ((Go.execOp a.eval o).run P w) v s' := by
  simp only [compOp, hop] at hc
  split at hc
  · rename_i fs x' ht hx
    split at hc
    · rename_i f hf
      simp only [Option.map_eq_some_iff] at hc
      obtain ⟨k, hk, rfl⟩ := hc
      have hv := opd_sound hE hG hx
      simp only [evOp] at he
      split at he
      · rename_i cs hcs
        simp only [Option.map_eq_some_iff, Prod.mk.injEq] at he
        obtain ⟨v1, h1, rfl, rfl⟩ := he
        rw [hcs] at hv
        obtain ⟨cs', e1, hr⟩ := hv
        obtain ⟨v', h2, h3⟩ := part_sound (P := P) hk hr h1 w
        refine Done.val h (v' := v') ?_ h3
        simp [Go.execOp, hop, e1, Go.Instr.field, run_under ht, hf, Go.asAgg, h2]
      · cases he
    · cases hc
  · cases hc

theorem sound_indexAddr (h : R W0 φ s w) (hE : ERel φ E a.tmps) (hG : GRel φ P.globals.size) {t : TypeId} {x i : Operand} (hop : o.op = .indexAddr t x i) {o' : AOp} (hc : compOp P o = some o')
    (he : evOp o' E s = some (v, s')) : Done P W0 φ s w ((Go.execOp a.eval o).run P w) v s' := by
  simp only [compOp, hop] at hc
  split at hc
  · rename_i e x' i' ht hx hi
    simp only [Option.map_eq_some_iff] at hc
    obtain ⟨n, hn, rfl⟩ := hc
    have hxv := opd_sound hE hG hx
    have hiv := opd_sound hE hG hi
    simp only [evOp] at he
    split at he
    · rename_i ad len cap k iv hxe hie
      split at he
      · rename_i hb
        simp only [Option.some.injEq, Prod.mk.injEq] at he
        obtain ⟨rfl, rfl⟩ := he
        rw [hxe] at hxv
        rw [hie] at hiv
        have e2 : a.eval i = _ := hiv
        have hsl : ∃ a' c', a.eval x = .slice (some a') len c' ∧ ARel φ ad a' := by
          cases cap with
          | ex c => obtain ⟨a', e1, hr⟩ := hxv; exact ⟨a', c, e1, hr⟩
          | op e' =>
            obtain ⟨a', c', e1, hr⟩ := hxv
            refine ⟨a', c', e1, ?_⟩
            unfold SRel at hr
            unfold ARel
            split at hr
            · rename_i c sz hc
              rcases hr.2.2.2 with h4 | h4
              · exact h4
              · exfalso; have := hr.2.1; omega
            · trivial
            · exact hr.elim
        obtain ⟨a', c', e1, hr⟩ := hsl
        refine Done.val h (v' := .pointer (some (a'.add (iv.toNat * n)))) ?_ ⟨_, rfl, hr.add _⟩
        simp [Go.execOp, hop, e1, e2, Go.Instr.indexAt, Go.asIntOf, run_under ht, run_size hn, hb]
      · cases he
    · cases he
  · rename_i len e x' i' ht hx hi
    simp only [Option.map_eq_some_iff] at hc
    obtain ⟨n, hn, rfl⟩ := hc
    have hxv := opd_sound hE hG hx
    have hiv := opd_sound hE hG hi
    simp only [evOp] at he
    split at he
    · rename_i ad k iv hxe hie
      split at he
      · rename_i hb
        simp only [Option.some.injEq, Prod.mk.injEq] at he
        obtain ⟨rfl, rfl⟩ := he
        rw [hxe] at hxv
        rw [hie] at hiv
        have e2 : a.eval i = _ := hiv
        obtain ⟨a', e1, hr⟩ := hxv
        refine Done.val h (v' := .pointer (some (a'.add (iv.toNat * n)))) ?_ ⟨_, rfl, hr.add _⟩
        simp [Go.execOp, hop, e1, e2, Go.Instr.indexAt, Go.asIntOf, run_under ht, run_size hn, hb, Go.Instr.sureAddr]
      · cases he
    · cases he
  · cases hc

theorem sound_index (h : R W0 φ s w) (hE : ERel φ E a.tmps) (hG : GRel φ P.globals.size) {t : TypeId} {x i : Operand} (hop : o.op = .index t x i) {o' : AOp} (hc : compOp P o = some o')
    (he : evOp o' E s = some (v, s')) : Done P W0 φ s w ((Go.execOp a.eval o).run P w) v s' := by
  simp only [compOp, hop] at hc
  split at hc
  · rename_i x' i' ht hx hi
    injection hc with hc; subst hc
    have hxv := opd_sound hE hG hx
    have hiv := opd_sound hE hG hi
    simp only [evOp] at he
    split at he
    · rename_i b k iv hxe hie
      split at he
      · rename_i hb
        simp only [Option.map_eq_some_iff, Prod.mk.injEq] at he
        obtain ⟨c, h1, rfl, rfl⟩ := he
        rw [hxe] at hxv
        rw [hie] at hiv
        have e1 : a.eval x = _ := hxv
        have e2 : a.eval i = _ := hiv
        refine Done.val h (v' := .int .u8 c.toNat) ?_ rfl
        have hg : (if 0 ≤ iv then (ByteArray.mk b.toArray)[iv.toNat]? else none) = some c := by rw [if_pos hb, bytes_get?, h1]
        simp [Go.execOp, hop, e1, e2, Go.Instr.index, Go.asIntOf, run_under ht, hg]
      · cases he
    · cases he
  · rename_i len e x' i' ht hx hi
    split at hc
    · rename_i n k hn hk
      injection hc with hc; subst hc
      have hxv := opd_sound hE hG hx
      have hiv := opd_sound hE hG hi
      simp only [evOp] at he
      split at he
      · rename_i cs k' iv hxe hie
        split at he
        · rename_i hb
          simp only [Option.map_eq_some_iff, Prod.mk.injEq] at he
          obtain ⟨v1, h1, rfl, rfl⟩ := he
          rw [hxe] at hxv
          rw [hie] at hiv
          have e2 : a.eval i = _ := hiv
          obtain ⟨cs', e1, hr⟩ := hxv
          obtain ⟨v', h2, h3⟩ := part_sound (P := P) hk hr h1 w
          refine Done.val h (v' := v') ?_ h3
          simp [Go.execOp, hop, e1, e2, Go.Instr.index, Go.asIntOf, run_under ht, hb, run_size hn, h2]
        · cases he
      · cases he
    · cases hc
  · cases hc

end ops
end Am
