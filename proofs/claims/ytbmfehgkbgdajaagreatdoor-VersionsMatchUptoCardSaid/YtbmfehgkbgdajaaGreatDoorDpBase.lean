/- What is asked of the world, and library functions by their contracts. -/
import Derived.Test.YtbmfehgkbgdajaaGreatDoorAmNat
import Derived.Test.YtbmfehgkbgdajaaGreatDoorShelf
import Derived.Lib.SplitLaws
import Derived.KernelRfl
set_option linter.all false
namespace Dp
open Am Go Go.Proofs
open Go.RowKit (Below)

theorem mixed : Tryz.prog.follows .mixedOrders = true := by kernel_rfl
theorem gMax : Tryz.prog.globalNamed "internal/bytealg.MaxLen" = some 0 := by kernel_rfl

def pow10 : Array Value := (Lib.pow10Tab.map fun z => Value.int .u64 z).toArray

/-- what is asked of the variables of the library -/
def G (W0 : Ctx) : Prop := (∃ m, varAt Tryz.prog W0.heap "internal/bytealg.MaxLen" = some #[.int .i64 m]) ∧ varAt Tryz.prog W0.heap "internal/strconv.uint64pow10" = some pow10 ∧
  (∃ t p, varAt Tryz.prog W0.heap "strconv.ErrSyntax" = some #[.iface t p]) ∧ (∃ t p, varAt Tryz.prog W0.heap "strconv.ErrRange" = some #[.iface t p])

theorem keeps : Keeps G := by
  rintro A B h ⟨⟨m, h1⟩, h2, ⟨t, p, h3⟩, t', p', h4⟩
  exact ⟨⟨m, varAt_keep h h1⟩, varAt_keep h h2, ⟨t, p, varAt_keep h h3⟩, t', p', varAt_keep h h4⟩

theorem strV {l : List UInt8} {v : Value} {φ : Phi} (h : VRel φ (.str l) v) : v = .string ⟨l.toArray⟩ := h

theorem argsOne {φ : Phi} {l : List UInt8} {args' : Array Value} (h : VsRel φ [.str l] args'.toList) : args' = #[.string ⟨l.toArray⟩] := by
  obtain ⟨a, e, ha⟩ := rel1 h
  have ha : a = _ := ha
  subst ha
  cases args'; simp_all
theorem argsInt {φ : Phi} {k : IntKind} {n : Int} {args' : Array Value} (h : VsRel φ [.int k n] args'.toList) : args' = #[.int k n] := by
  obtain ⟨a, e, ha⟩ := rel1 h
  have ha : a = _ := ha
  subst ha
  cases args'; simp_all
theorem argsTwo {φ : Phi} {l m : List UInt8} {args' : Array Value} (h : VsRel φ [.str l, .str m] args'.toList) : args' = #[.string ⟨l.toArray⟩, .string ⟨m.toArray⟩] := by
  obtain ⟨a, b, e, ha, hb⟩ := rel2 h
  have ha : a = _ := ha
  have hb : b = _ := hb
  subst ha; subst hb
  cases args'; simp_all

def natIndex : List Val → St → Option (Val × St)
  | [.str s, .str t], st => if s.length < 4294967281 then some (.int .i64 (Lib.index s t), st) else none
  | _, _ => none

theorem ok_index : NatOk G Tryz.prog 164 natIndex := by
  refine ⟨by kernel_rfl, ?_⟩
  intro args s v s' hg W0 φ w args' hP hr hgr hargs
  unfold natIndex at hg
  split at hg
  case h_2 => cases hg
  rename_i a b
  split at hg
  case isFalse => cases hg
  rename_i hl
  simp only [Option.some.injEq, Prod.mk.injEq] at hg
  obtain ⟨rfl, rfl⟩ := hg
  rw [argsTwo hargs]
  obtain ⟨⟨m, h1⟩, _⟩ := keeps.now hP hr
  refine (Tryz.stringslite_Index ⟨a.toArray⟩ ⟨b.toArray⟩ m w (by rw [bytes_size]; exact hl) (by rw [varAt_cell gMax h1]; rfl)).mono ?_
  rintro e w' ⟨rfl, rfl⟩
  exact ⟨_, φ, rfl, by simp [VRel], Post.refl hr⟩

def natItoa : List Val → St → Option (Val × St)
  | [.int .i64 n], st => if -9223372036854775808 ≤ n ∧ n ≤ 9223372036854775807 then some (.str (Lib.itoa n), st) else none
  | _, _ => none

theorem ok_itoa : NatOk G Tryz.prog 71 natItoa := by
  refine ⟨by kernel_rfl, ?_⟩
  intro args s v s' hg W0 φ w args' hP hr hgr hargs
  unfold natItoa at hg
  split at hg
  case h_2 => cases hg
  rename_i n
  split at hg
  case isFalse => cases hg
  rename_i hl
  simp only [Option.some.injEq, Prod.mk.injEq] at hg
  obtain ⟨rfl, rfl⟩ := hg
  rw [argsInt hargs]
  obtain ⟨_, h2, _⟩ := keeps.now hP hr
  refine (Tryz.strconv_Itoa n hl.1 hl.2 w h2).mono ?_
  rintro e w' ⟨rfl, k, os, rfl⟩
  refine ⟨_, φ, rfl, rfl, hr.grow (fun c hc => ?_) ?_ rfl rfl⟩
  · show (w.heap ++ os)[c]? = _
    rw [Array.getElem?_append_left hc]
  · show _ ≤ (w.heap ++ os).size
    simp

def natSplit : List Val → St → Option (Val × St)
  | [.str s, .str t], st => if s.length < 4294967281 ∧ 1 ≤ t.length then
      let l := (Lib.splitB ⟨t.toArray⟩ 0 (Lib.countB ⟨s.toArray⟩ ⟨t.toArray⟩) ⟨s.toArray⟩).map fun b => Val.str b.data.toList
      some (.slice (some (st.next, 0)) l.length (.ex l.length), st.alloc (.row { cs := l, opn := false, ro := false, frz := 0, elem := some 9 })) else none
  | _, _ => none

theorem strs_rel (φ : Phi) : ∀ l : List ByteArray, VsRel φ (l.map fun b => Val.str b.data.toList) (l.map Value.string)
  | [] => rfl
  | b :: r => ⟨_, _, rfl, by simp [VRel], strs_rel φ r⟩

theorem ok_split : NatOk G Tryz.prog 66 natSplit := by
  refine ⟨by kernel_rfl, ?_⟩
  intro args s v s' hg W0 φ w args' hP hr hgr hargs
  unfold natSplit at hg
  split at hg
  case h_2 => cases hg
  rename_i a b
  split at hg
  case isFalse => cases hg
  rename_i hl
  simp only [Option.some.injEq, Prod.mk.injEq] at hg
  obtain ⟨rfl, rfl⟩ := hg
  rw [argsTwo hargs]
  obtain ⟨⟨m, h1⟩, _⟩ := keeps.now hP hr
  have hb : 1 ≤ (ByteArray.mk b.toArray).size := by rw [bytes_size]; exact hl.2
  have hlen := Lib.splitB_all ⟨b.toArray⟩ hb 0 (Lib.countB ⟨a.toArray⟩ ⟨b.toArray⟩) ⟨a.toArray⟩ rfl
  refine (Tryz.strings_Split ⟨a.toArray⟩ ⟨b.toArray⟩ m w (by rw [bytes_size]; exact hl.1) (by rw [varAt_cell gMax h1]; rfl) hb).mono ?_
  rintro e w' ⟨rfl, rfl⟩
  rw [← hlen]
  generalize Lib.splitB ⟨b.toArray⟩ 0 (Lib.countB ⟨a.toArray⟩ ⟨b.toArray⟩) ⟨a.toArray⟩ = parts
  have hv := strs_rel φ parts
  refine ⟨_, _, rfl, ?_, hr.newRow (w' := w.alloc (.cells (parts.map Value.string).toArray 9)) (cs := parts.map fun b => Val.str b.data.toList) (arr := (parts.map Value.string).toArray) (fr := (0, 0)) false true (some 9) (by simp) (by
    rw [List.length_map, show parts.length = (parts.map Value.string).toArray.toList.length by simp, List.take_length]; exact hv) rfl rfl rfl (noFrz _) (fun _ => rfl) (fun t ht => by injection ht)⟩
  refine ⟨⟨w.heap.size, 0, none⟩, by simp, ?_⟩
  unfold ARel; rw [Phi.ext_same]

def natAtoi : List Val → St → Option (Val × St)
  | [.str s], st => if s.length ≤ 281474976710656 then some (match Lib.atoiAll s with
      | .ok v => .tup [.int .i64 v, .nilIface]
      | .syntax => .tup [.int .i64 0, .iface 282 .undef]
      | .range => .tup [.int .i64 (Lib.atoiSat s), .iface 282 .undef], st) else none
  | _, _ => none

theorem ok_atoi : NatOk G Tryz.prog 142 natAtoi := by
  refine ⟨by kernel_rfl, ?_⟩
  intro args s v s' hg W0 φ w args' hP hr hgr hargs
  unfold natAtoi at hg
  split at hg
  case h_2 => cases hg
  rename_i a
  split at hg
  case isFalse => cases hg
  rename_i hl
  simp only [Option.some.injEq, Prod.mk.injEq] at hg
  obtain ⟨rfl, rfl⟩ := hg
  rw [argsOne hargs]
  obtain ⟨_, _, ⟨t, p, h3⟩, t', p', h4⟩ := keeps.now hP hr
  have hs : (ByteArray.mk a.toArray).size ≤ 281474976710656 := by rw [bytes_size]; exact hl
  have ea : (ByteArray.mk a.toArray).data.toList = a := by simp
  cases hc : Lib.atoiAll a with
  | ok n =>
    refine (Tryz.strconv_Atoi_ok ⟨a.toArray⟩ (by omega) n (by rw [ea]; exact hc) w).mono ?_
    rintro e w' ⟨rfl, hw⟩
    have hb : Below w.heap.size w w' := by
      rcases hw with rfl | ⟨t, rfl⟩
      · exact Below.refl _ _
      · exact Lib.bytesWorld_below _ _ _
    exact ⟨_, φ, rfl, ⟨_, rfl, VsRel.cons rfl (VsRel.cons rfl VsRel.nil)⟩, hr.below hb⟩
  | range =>
    refine (Tryz.strconv_Atoi_range_var ⟨a.toArray⟩ hs (by rw [ea]; exact hc) t' p' w h4).mono ?_
    rintro e w' ⟨N, rfl, _, _, hb⟩
    rw [ea]
    exact ⟨_, φ, rfl, ⟨_, rfl, VsRel.cons rfl (VsRel.cons ⟨_, rfl, trivial⟩ VsRel.nil)⟩, hr.below hb⟩
  | _ =>
    refine (Tryz.strconv_Atoi_syntax_var ⟨a.toArray⟩ hs (by rw [ea]; exact hc) t p w h3).mono ?_
    rintro e w' ⟨N, rfl, _, _, hb⟩
    exact ⟨_, φ, rfl, ⟨_, rfl, VsRel.cons rfl (VsRel.cons ⟨_, rfl, trivial⟩ VsRel.nil)⟩, hr.below hb⟩
end Dp
