/- Each operation of the abstract machine stands for the model's: slices. -/
import Derived.Test.YtbmfehgkbgdajaaGreatDoorAmOp4
set_option linter.all false
namespace Am
open Go (IntKind BinOp UnOp FuncId TypeId Program Value World Addr Obj Operand Oper Op Sem Act)

variable {W0 : Ctx} {φ : Phi} {s : St} {w w' : World} {P : Program}

theorem wrap_small {x : Int} (h0 : 0 ≤ x) (h1 : x ≤ 281474976710656) : IntKind.i64.wrap x = x := by
  unfold IntKind.wrap
  simp only [IntKind.bits, IntKind.signed]
  have e : x % (2 ^ 64 : Int) = x := Int.emod_eq_of_lt h0 (by omega)
  simp only [e]
  split
  · rename_i h; simp at h; omega
  · rfl

theorem bound_sound {x : Val} {x' : Value} {y n : Nat} (h : bound x y = some n) (hx : VRel φ x x') (w : World) (code : Go.BoundsCode) :
    (Go.Instr.sliceBound x' y code).run P w = .ok n w ∧ n ≤ y := by
  unfold bound at h
  split at h
  · rename_i k i
    obtain rfl : x' = _ := hx
    split at h
    · rename_i hc
      injection h with h; subst h
      refine ⟨?_, by omega⟩
      simp [Go.Instr.sliceBound, Go.asIntOf, hc]
    · cases h
  · cases h

/-- an operand that may be missing -/
def ORel (φ : Phi) : Option Val → Option Value → Prop
  | none, v => v = none
  | some x, v => ∃ x', v = some x' ∧ VRel φ x x'

theorem bounds_sound {isSl : Bool} {len c m hh l : Nat} {lo hi mx : Option Val} {lo' hi' mx' : Option Value} (hlo : ORel φ lo lo') (hhi : ORel φ hi hi') (hmx : ORel φ mx mx')
    (hno : ¬ (mx.isSome = true ∧ hi.isSome = false)) (h1 : (mx = none ∧ m = c) ∨ (∃ v, mx = some v ∧ bound v c = some m)) (h2 : boundO hi m len = some hh) (h3 : boundO lo hh 0 = some l) (w : World) :
    (Go.Instr.sliceBounds isSl len c lo' hi' mx').run P w = .ok (l, hh, m) w ∧ l ≤ hh := by
  have hl3 : ∀ code, l ≤ hh ∧ ((lo = none ∧ lo' = none ∧ l = 0) ∨ ∃ v', lo' = some v' ∧ (Go.Instr.sliceBound v' hh code).run P w = .ok l w) := by
    intro code
    cases lo with
    | none => simp [boundO] at h3; subst h3; exact ⟨Nat.zero_le _, .inl ⟨rfl, hlo, rfl⟩⟩
    | some u =>
      obtain ⟨v', rfl, hv⟩ := hlo
      have := bound_sound (P := P) h3 hv w code
      exact ⟨this.2, .inr ⟨v', rfl, this.1⟩⟩
  refine ⟨?_, (hl3 .sliceB).1⟩
  rcases h1 with ⟨rfl, rfl⟩ | ⟨v, rfl, hb⟩
  · obtain rfl : mx' = none := hmx
    cases hi with
    | none =>
      obtain rfl : hi' = none := hhi
      simp [boundO] at h2; subst h2
      rcases (hl3 .sliceB).2 with ⟨_, rfl, rfl⟩ | ⟨v', rfl, h5⟩
      · simp [Go.Instr.sliceBounds]
      · simp [Go.Instr.sliceBounds, h5]
    | some u =>
      obtain ⟨u', rfl, hu⟩ := hhi
      simp only [boundO] at h2
      have h4 := fun code => (bound_sound (P := P) h2 hu w code).1
      rcases (hl3 .sliceB).2 with ⟨_, rfl, rfl⟩ | ⟨v', rfl, h5⟩
      · simp [Go.Instr.sliceBounds, h4]
      · simp [Go.Instr.sliceBounds, h4, h5]
  · obtain ⟨x', rfl, hx⟩ := hmx
    have h6 := fun code => (bound_sound (P := P) hb hx w code).1
    cases hi with
    | none => exact absurd ⟨rfl, rfl⟩ hno
    | some u =>
      obtain ⟨u', rfl, hu⟩ := hhi
      simp only [boundO] at h2
      have h4 := fun code => (bound_sound (P := P) h2 hu w code).1
      rcases (hl3 .slice3C).2 with ⟨_, rfl, rfl⟩ | ⟨v', rfl, h5⟩
      · simp [Go.Instr.sliceBounds, h4, h6]
      · simp [Go.Instr.sliceBounds, h4, h5, h6]

theorem opdO_sound {E : Env} {a : Act} (hE : ERel φ E a.tmps) (hG : GRel φ P.globals.size) {x : Option Operand} {x' : Option AOpd} (h : opdO P x = some x') : ORel φ (x'.map (AOpd.ev E)) (x.map a.eval) := by
  cases x with
  | none => simp [opdO] at h; subst h; rfl
  | some x =>
    simp only [opdO, Option.map_eq_some_iff] at h
    obtain ⟨y, hy, rfl⟩ := h
    exact ⟨_, rfl, opd_sound hE hG hy⟩

/-- a slice of a slice, or of an array behind an address -/
theorem sliceV_sound (h : R W0 φ s w) {size : Nat} {x v : Val} {x' : Value} {lo hi mx : Option Val} {lo' hi' mx' : Option Value} (hlo : ORel φ lo lo') (hhi : ORel φ hi hi') (hmx : ORel φ mx mx')
    (hx : VRel φ x x') (hv : sliceV s size x lo hi mx = some v) (isSl : Bool) :
    ∃ ad len c, x' = .slice ad len c ∧ ∃ l hh m, (Go.Instr.sliceBounds isSl len c lo' hi' mx').run P w = .ok (l, hh, m) w ∧
      VRel φ v (.slice (if m = l then ad else ad.map (·.add (l * size))) (hh - l) (m - l)) := by
  unfold sliceV at hv
  split at hv
  · cases hv
  · rename_i hno
    split at hv
    · rename_i a len cap
      split at hv
      · rename_i c
        -- exact
        split at hv
        · rename_i m hm
          split at hv
          · rename_i hh h2
            split at hv
            · rename_i l h3
              split at hv
              · rename_i hle
                injection hv with hv; subst hv
                have h1 : (mx = none ∧ m = c) ∨ (∃ v, mx = some v ∧ bound v c = some m) := by
                  cases mx with
                  | none => simp [boundO] at hm; exact .inl ⟨rfl, hm.symm⟩
                  | some u => exact .inr ⟨u, rfl, hm⟩
                cases a with
                | none =>
                  rw [show x' = _ from hx]
                  refine ⟨none, len, c, rfl, l, hh, m, (bounds_sound hlo hhi hmx hno h1 h2 h3 w).1, ?_⟩
                  simp [VRel]
                | some a =>
                  obtain ⟨a', rfl, hr⟩ := hx
                  refine ⟨some a', len, c, rfl, l, hh, m, (bounds_sound hlo hhi hmx hno h1 h2 h3 w).1, ?_⟩
                  by_cases hml : m = l
                  · rw [if_pos hml, if_pos hml]; exact ⟨a', rfl, hr⟩
                  · rw [if_neg hml, if_neg hml]; exact ⟨_, rfl, hr.add _⟩
              · cases hv
            · cases hv
          · cases hv
        · cases hv
      · rename_i e
        split at hv
        · cases hv
        · rename_i a
          split at hv
          · cases hv
          · rename_i r hr
            split at hv
            · rename_i hc
              obtain ⟨rfl, he0, hoff⟩ := hc
              obtain ⟨a', c', rfl, hs⟩ := hx
              obtain ⟨cc, sz, arr, et, fr, hcc, hw, hrel⟩ := h.row hr (by intro hu; unfold SRel at hs; rw [hu] at hs; exact hs)
              unfold SRel at hs
              rw [hcc] at hs
              obtain ⟨_, hnc, hsz, had⟩ := hs
              have hcs := hrel.2.1
              have hkn : (r.cs.length - a.2) / e ≤ c' := by
                apply Nat.div_le_of_le_mul
                rw [Nat.mul_comm e c']; omega
              dsimp only at hv
              split at hv
              · rename_i mv
                split at hv
                · rename_i m hm
                  split at hv
                  · rename_i hh h2
                    split at hv
                    · rename_i l h3
                      split at hv
                      · rename_i hle
                        injection hv with hv; subst hv
                        have hm' : bound mv c' = some m := by
                          unfold bound at hm ⊢
                          split at hm
                          · split at hm
                            · rename_i hcond
                              rw [if_pos ⟨hcond.1, by omega⟩]; exact hm
                            · cases hm
                          · cases hm
                        have hb := bounds_sound (P := P) (isSl := isSl) (len := len) hlo hhi hmx hno (.inr ⟨mv, rfl, hm'⟩) h2 h3 w
                        refine ⟨some a', len, c', rfl, l, hh, m, hb.1, ?_⟩
                        have had' : a' = ⟨cc, a.2, none⟩ := by
                          rcases had with h4 | h4
                          · exact h4
                          · omega
                        have hA : ARel φ a a' := by rw [had']; exact ARel.mk hcc
                        by_cases hml : m = l
                        · rw [if_pos hml, if_pos hml]; exact ⟨a', rfl, hA⟩
                        · rw [if_neg hml, if_neg hml]; exact ⟨_, rfl, hA.add _⟩
                      · cases hv
                    · cases hv
                  · cases hv
                · cases hv
              · split at hv
                · rename_i hh h2
                  split at hv
                  · rename_i l h3
                    injection hv with hv; subst hv
                    have h2' : boundO hi c' len = some hh ∧ hh ≤ c' := by
                      cases hi with
                      | none => simp [boundO] at h2 ⊢; subst h2; exact ⟨rfl, hnc⟩
                      | some u =>
                        simp only [boundO] at h2 ⊢
                        unfold bound at h2 ⊢
                        split at h2
                        · split at h2
                          · rename_i hcond
                            injection h2 with h2; subst h2
                            rw [if_pos ⟨hcond.1, by omega⟩]; exact ⟨rfl, by omega⟩
                          · cases h2
                        · cases h2
                    have hb := bounds_sound (P := P) (isSl := isSl) (len := len) (m := c') hlo hhi hmx hno (.inl ⟨rfl, rfl⟩) h2'.1 h3 w
                    refine ⟨some a', len, c', rfl, l, hh, c', hb.1, ?_⟩
                    have hlh := hb.2
                    have hmul : c' * e = l * e + (c' - l) * e := by rw [← Nat.add_mul]; congr 1; omega
                    by_cases hml : c' = l
                    · rw [if_pos hml]
                      refine ⟨a', _, rfl, ?_⟩
                      unfold SRel; rw [hcc]
                      exact ⟨he0, by omega, by show a.2 + l * e + _ = sz; omega, .inr (by omega)⟩
                    · rw [if_neg hml]
                      refine ⟨a'.add (l * e), _, rfl, ?_⟩
                      unfold SRel; rw [hcc]
                      refine ⟨he0, by omega, by show a.2 + l * e + _ = sz; omega, .inl ?_⟩
                      rcases had with h4 | h4
                      · rw [h4, addr_add]
                      · omega
                  · cases hv
                · cases hv
            · cases hv
    · cases hv

section ops
variable {E : Env} {a : Act} {o : Oper} {v : Val} {s' : St}

theorem sound_slice (h : R W0 φ s w) (hE : ERel φ E a.tmps) (hG : GRel φ P.globals.size) {t : TypeId} {x : Operand} {lo hi mx : Option Operand} (hop : o.op = .slice t x lo hi mx) {o' : AOp} (hc : compOp P o = some o')
    (he : evOp o' E s = some (v, s')) : Done P W0 φ s w ((Go.execOp a.eval o).run P w) v s' := by
  simp only [compOp, hop] at hc
  split at hc
  · -- a string
    rename_i x' lo' hi' ht hx hlo hhi hmx
    injection hc with hc; subst hc
    have hxv := opd_sound hE hG hx
    simp only [evOp] at he
    split at he
    · rename_i b hb
      split at he
      · rename_i hh h2
        split at he
        · rename_i l h3
          simp only [Option.some.injEq, Prod.mk.injEq] at he
          obtain ⟨rfl, rfl⟩ := he
          rw [hb] at hxv
          have e1 : a.eval x = _ := hxv
          have hmn : mx = none := by cases mx with
            | none => rfl
            | some u => simp only [opdO, Option.map_eq_some_iff] at hmx; obtain ⟨_, _, hm⟩ := hmx; cases hm
          subst hmn
          have hbs := (bounds_sound (P := P) (isSl := false) (c := b.length) (opdO_sound hE hG hlo) (opdO_sound hE hG hhi) (show ORel φ none none from rfl) (by simp) (.inl ⟨rfl, rfl⟩) h2 h3 w).1
          refine Done.val h (v' := .string ⟨((b.drop l).take (hh - l)).toArray⟩) ?_ rfl
          simp [Go.execOp, hop, e1, Go.Instr.sliceAt, Go.Instr.slice, run_under ht, bytes_size, hbs, bytes_extract]
        · cases he
      · cases he
    · cases he
  · rename_i e x' lo' hi' mx' ht hx hlo hhi hmx
    split at hc
    · rename_i n hn
      injection hc with hc; subst hc
      simp only [evOp, Option.map_eq_some_iff, Prod.mk.injEq] at he
      obtain ⟨v1, h1, rfl, rfl⟩ := he
      obtain ⟨ad, len, c, e1, l, hh, m, hbs, hr⟩ := sliceV_sound (P := P) h (opdO_sound hE hG hlo) (opdO_sound hE hG hhi) (opdO_sound hE hG hmx) (opd_sound hE hG hx) h1 true
      refine Done.val h ?_ hr
      simp [Go.execOp, hop, e1, Go.Instr.sliceAt, Go.Instr.slice, run_under ht, hbs, run_size hn]
    · cases hc
  · rename_i n e x' lo' hi' mx' ht hx hlo hhi hmx
    split at hc
    · rename_i sz hn
      injection hc with hc; subst hc
      have hxv := opd_sound hE hG hx
      simp only [evOp] at he
      split at he
      · rename_i ad had
        simp only [Option.map_eq_some_iff, Prod.mk.injEq] at he
        obtain ⟨v1, h1, rfl, rfl⟩ := he
        rw [had] at hxv
        obtain ⟨a', e1, hr⟩ := hxv
        obtain ⟨ad2, len, c, e2, l, hh, m, hbs, hr2⟩ := sliceV_sound (P := P) (x := .slice (some ad) n (.ex n)) (x' := .slice (some a') n n) h (opdO_sound hE hG hlo) (opdO_sound hE hG hhi) (opdO_sound hE hG hmx) ⟨a', rfl, hr⟩ h1 false
        injection e2 with e3 e4 e5
        subst e3; subst e4; subst e5
        refine Done.val h ?_ hr2
        simp only [Go.execOp, hop, e1, Go.Instr.sliceAt, Go.Sem.run_bind, run_under ht, Go.Result.andThen_ok, Go.Instr.sureAddr, Go.Sem.run_pure, hbs, run_size hn]
        by_cases hml : m = l <;> simp [hml]
      · cases he
    · cases hc
  · cases hc

theorem sound_makeSlice (h : R W0 φ s w) (hE : ERel φ E a.tmps) (hG : GRel φ P.globals.size) {t : TypeId} {l c : Operand} (hop : o.op = .makeSlice t l c) {o' : AOp} (hc : compOp P o = some o')
    (he : evOp o' E s = some (v, s')) : Done P W0 φ s w ((Go.execOp a.eval o).run P w) v s' := by
  simp only [compOp, hop] at hc
  split at hc
  · rename_i e ht
    split at hc
    · rename_i z b l' c' hz hb hl hcap
      injection hc with hc; subst hc
      have hlv := opd_sound hE hG hl
      have hcv := opd_sound hE hG hcap
      simp only [evOp] at he
      split at he
      · rename_i ln cn hle hce
        split at he
        · rename_i hcond
          obtain ⟨h0, h1, h2, h3⟩ := hcond
          simp only [Option.some.injEq, Prod.mk.injEq] at he
          obtain ⟨rfl, rfl⟩ := he
          rw [hle] at hlv
          rw [hce] at hcv
          have e1 : a.eval l = _ := hlv
          have e2 : a.eval c = _ := hcv
          obtain ⟨i, zv, hi, hzv, hrel, hzl, _⟩ := zeroOf_some hz φ
          obtain ⟨i', hi', hb'⟩ := run_bytes hb w
          have hib : i.bytes = b := by simp [bytesOf, hi] at hb; exact hb
          have hzs : zv.cells.size = i.size := by have := hrel.length; simp at this; omega
          have hsz : sizeOf P e = some i.size := by simp [sizeOf, hi]
          have hwl : IntKind.i64.wrap ln = ln := wrap_small h0 (by omega)
          have hwc : IntKind.i64.wrap cn = cn := wrap_small (by omega) h3
          have hti : (Go.typeInfo e).run P w = .ok i w := by simp [Go.typeInfo, hi]
          have harr := arr_zeros zv i.size cn.toNat hzs
          have hrz := zeros_rel hrel cn.toNat
          have hll := hrz.length
          rw [← harr] at hrz hll
          refine ⟨_, .slice (some ⟨w.heap.size, 0, none⟩) ln.toNat cn.toNat, { w with heap := w.heap.push (.cells ((Array.range (cn.toNat * i.size)).map (zv.cells[· % zv.cells.size]!)) e) }, .inl ?_, ⟨_, rfl, by unfold ARel; rw [Phi.ext_same]⟩, h.newRow (arr := (Array.range (cn.toNat * i.size)).map (zv.cells[· % zv.cells.size]!)) (fr := (0, 0)) false true (some e) ?_ ?_ rfl rfl rfl (noFrz _) (fun _ => rfl) (fun t ht => by injection ht)⟩
          · have hc1 : (decide (cn < 0) || decide ((i.bytes : Int) * cn > 2 ^ 48)) = false := by
              simp only [Bool.or_eq_false_iff, decide_eq_false_iff_not]
              refine ⟨by omega, ?_⟩
              rw [hib, Int.mul_comm]; omega
            simp only [Go.execOp, hop, Go.Instr.makeSlice, Go.Sem.run_bind, run_under ht, Go.Result.andThen_ok, e1, e2, Go.asInt, Go.asIntOf, Go.Sem.run_pure, hti, hwl, hwc]
            have hc2 : (decide (cn < 0) || decide ((i.bytes : Int) * cn > 2 ^ 48) || decide (ln < 0) || decide (ln > cn)) = false := by
              rw [hc1]; simp; omega
            simp only [hc2, Bool.false_eq_true, if_false, Go.run_askRoom, Go.Result.andThen_ok, run_size hsz, Go.Sem.run_bind, Go.Sem.run_pure, Go.Sem.run_ite]
            by_cases hn0 : cn.toNat * i.size = 0
            · rw [if_pos hn0]
              have hr0 : Array.range 0 = #[] := rfl
              simp [Go.newRow, hn0, hr0]
            · rw [if_neg hn0]
              simp [run_zero hi hzv, Go.newRow]
          · rw [← hll]; simp
          · rw [← hll, Array.length_toList]; simpa [List.take_of_length_le] using hrz
        · cases he
      · cases he
    · cases hc
  · cases hc
end ops
end Am
