/- How an abstract value and an abstract heap stand to the model's. -/
import Derived.Test.YtbmfehgkbgdajaaGreatDoorAmComp
import Derived.Calls
import Derived.Laws.World
import Derived.Laws.Sem
set_option linter.all false
namespace Am
open Go (IntKind BinOp UnOp FuncId TypeId Program Value World Addr Obj)

/-- Where an abstract block lies: not yet known, at a block (of so many cells), or given up. -/
inductive Tri where
  | unk
  | at (c sz : Nat)
  | dead
  deriving DecidableEq

abbrev Phi := Nat → Tri

def ARel (φ : Phi) (a : Nat × Nat) (a' : Addr) : Prop :=
  match φ a.1 with
  | .at c _ => a' = ⟨c, a.2, none⟩
  | .dead => True
  | .unk => False

def SRel (φ : Phi) (a : Nat × Nat) (n e : Nat) (a' : Addr) (c' : Nat) : Prop :=
  match φ a.1 with
  | .at c sz => 0 < e ∧ n ≤ c' ∧ a.2 + c' * e = sz ∧ (a' = ⟨c, a.2, none⟩ ∨ c' = 0)
  | .dead => n ≤ c'
  | .unk => False

def BRel (φ : Phi) (r c : Nat) : Prop :=
  match φ r with
  | .at c' _ => c = c'
  | .dead => True
  | .unk => False

mutual
def VRel (φ : Phi) : Val → Value → Prop
  | .undef, _ => True
  | .bool b, v => v = .bool b
  | .int k n, v => v = .int k n
  | .str s, v => v = .string ⟨s.toArray⟩
  | .ptr none, v => v = .pointer none
  | .ptr (some a), v => ∃ a', v = .pointer (some a') ∧ ARel φ a a'
  | .slice none n (.ex c), v => v = .slice none n c
  | .slice none _ (.op _), _ => False
  | .slice (some a) n (.ex c), v => ∃ a', v = .slice (some a') n c ∧ ARel φ a a'
  | .slice (some a) n (.op e), v => ∃ a' c', v = .slice (some a') n c' ∧ SRel φ a n e a' c'
  | .map none, v => v = .map none
  | .map (some r), v => ∃ c, v = .map (some c) ∧ BRel φ r c
  | .fn f p q, v => ∃ p' q', v = .func (.func f) p' q' ∧ VsRel φ p p'.toList ∧ VsRel φ q q'.toList
  | .nilFn, v => v = .nilFunc
  | .yld l, v => ∃ c, v = .func (.yield c) #[] #[] ∧ BRel φ l c
  | .nilIface, v => v = .nilIface
  | .iface t x, v => ∃ x', v = .iface t x' ∧ VRel φ x x'
  | .agg cs, v => ∃ cs', v = .agg cs' ∧ VsRel φ cs cs'.toList
  | .tup cs, v => ∃ cs', v = .tuple cs' ∧ VsRel φ cs cs'.toList
def VsRel (φ : Phi) : List Val → List Value → Prop
  | [], l => l = []
  | a :: r, l => ∃ b s, l = b :: s ∧ VRel φ a b ∧ VsRel φ r s
end

/-- more is known, or a block has been given up -/
def PLe (φ φ' : Phi) : Prop := ∀ b, φ b = .unk ∨ φ' b = φ b ∨ φ' b = .dead

theorem PLe.refl (φ : Phi) : PLe φ φ := fun _ => .inr (.inl rfl)

theorem PLe.trans {φ φ' φ'' : Phi} (h : PLe φ φ') (h' : PLe φ' φ'') : PLe φ φ'' := by
  intro b
  rcases h b with h1 | h1 | h1
  · exact .inl h1
  · rcases h' b with h2 | h2 | h2
    · exact .inl (h1 ▸ h2)
    · exact .inr (.inl (h2.trans h1))
    · exact .inr (.inr h2)
  · rcases h' b with h2 | h2 | h2
    · rw [h1] at h2; cases h2
    · exact .inr (.inr (h2.trans h1))
    · exact .inr (.inr h2)

theorem ARel.mono {φ φ' : Phi} (h : PLe φ φ') {a : Nat × Nat} {a' : Addr} (hr : ARel φ a a') : ARel φ' a a' := by
  unfold ARel at *
  rcases h a.1 with h1 | h1 | h1
  · rw [h1] at hr; exact hr.elim
  · rw [h1]; exact hr
  · rw [h1]; trivial

theorem SRel.mono {φ φ' : Phi} (h : PLe φ φ') {a : Nat × Nat} {n e : Nat} {a' : Addr} {c' : Nat} (hr : SRel φ a n e a' c') : SRel φ' a n e a' c' := by
  unfold SRel at *
  rcases h a.1 with h1 | h1 | h1
  · rw [h1] at hr; exact hr.elim
  · rw [h1]; exact hr
  · rw [h1]
    cases h2 : φ a.1 with
    | unk => rw [h2] at hr; exact hr.elim
    | «at» c sz => rw [h2] at hr; exact hr.2.1
    | dead => rw [h2] at hr; exact hr

theorem BRel.mono {φ φ' : Phi} (h : PLe φ φ') {r c : Nat} (hr : BRel φ r c) : BRel φ' r c := by
  unfold BRel at *
  rcases h r with h1 | h1 | h1
  · rw [h1] at hr; exact hr.elim
  · rw [h1]; exact hr
  · rw [h1]; trivial

mutual
theorem VRel.mono {φ φ' : Phi} (h : PLe φ φ') : ∀ {v : Val} {w : Value}, VRel φ v w → VRel φ' v w
  | .undef, _, _ => trivial
  | .bool _, _, hr => hr
  | .int _ _, _, hr => hr
  | .str _, _, hr => hr
  | .ptr none, _, hr => hr
  | .ptr (some _), _, ⟨a', e, hr⟩ => ⟨a', e, hr.mono h⟩
  | .slice none _ (.ex _), _, hr => hr
  | .slice none _ (.op _), _, hr => hr
  | .slice (some _) _ (.ex _), _, ⟨a', e, hr⟩ => ⟨a', e, hr.mono h⟩
  | .slice (some _) _ (.op _), _, ⟨a', c', e, hr⟩ => ⟨a', c', e, hr.mono h⟩
  | .map none, _, hr => hr
  | .map (some _), _, ⟨c, e, hr⟩ => ⟨c, e, hr.mono h⟩
  | .fn _ _ _, _, ⟨p', q', e, hp, hq⟩ => ⟨p', q', e, VsRel.mono h hp, VsRel.mono h hq⟩
  | .nilFn, _, hr => hr
  | .yld _, _, ⟨c, e, hr⟩ => ⟨c, e, hr.mono h⟩
  | .nilIface, _, hr => hr
  | .iface _ _, _, ⟨x', e, hr⟩ => ⟨x', e, VRel.mono h hr⟩
  | .agg _, _, ⟨cs', e, hr⟩ => ⟨cs', e, VsRel.mono h hr⟩
  | .tup _, _, ⟨cs', e, hr⟩ => ⟨cs', e, VsRel.mono h hr⟩
theorem VsRel.mono {φ φ' : Phi} (h : PLe φ φ') : ∀ {v : List Val} {w : List Value}, VsRel φ v w → VsRel φ' v w
  | [], _, hr => hr
  | _ :: _, _, ⟨b, s, e, hb, hs⟩ => ⟨b, s, e, VRel.mono h hb, VsRel.mono h hs⟩
end

section
variable {φ : Phi}

theorem VsRel.nil : VsRel φ [] [] := rfl
theorem VsRel.cons {a : Val} {b : Value} {r : List Val} {s : List Value} (h : VRel φ a b) (h' : VsRel φ r s) : VsRel φ (a :: r) (b :: s) := ⟨b, s, rfl, h, h'⟩

theorem VsRel.length : ∀ {l : List Val} {l' : List Value}, VsRel φ l l' → l'.length = l.length
  | [], _, h => by rw [show _ = [] from h]; rfl
  | _ :: _, _, ⟨_, _, e, _, h⟩ => by rw [e]; simp [VsRel.length h]

theorem VsRel.get : ∀ {l : List Val} {l' : List Value} {i : Nat} {v : Val}, VsRel φ l l' → l[i]? = some v → ∃ v', l'[i]? = some v' ∧ VRel φ v v'
  | [], _, _, _, _, h => by simp at h
  | a :: r, _, 0, v, ⟨b, s, e, hb, _⟩, h => by
    obtain rfl : a = v := by simpa using h
    exact ⟨b, by simp [e], hb⟩
  | a :: r, _, i + 1, v, ⟨b, s, e, _, hs⟩, h => by
    obtain ⟨v', h1, h2⟩ := VsRel.get hs (i := i) (v := v) (by simpa using h)
    exact ⟨v', by simp [e, h1], h2⟩

theorem VsRel.append : ∀ {l : List Val} {l' : List Value} {r : List Val} {r' : List Value}, VsRel φ l l' → VsRel φ r r' → VsRel φ (l ++ r) (l' ++ r')
  | [], l', r, r', h, h' => by rw [show l' = [] from h]; exact h'
  | a :: l, _, r, r', ⟨b, s, e, hb, hs⟩, h' => ⟨b, s ++ r', by rw [e]; rfl, hb, VsRel.append hs h'⟩

theorem VsRel.take : ∀ {l : List Val} {l' : List Value} (n : Nat), VsRel φ l l' → VsRel φ (l.take n) (l'.take n)
  | [], l', n, h => by rw [show l' = [] from h]; simp [VsRel]
  | a :: l, l', 0, _ => by simp [VsRel]
  | a :: l, _, n + 1, ⟨b, s, e, hb, hs⟩ => by rw [e]; exact ⟨b, s.take n, by simp, hb, VsRel.take n hs⟩

theorem VsRel.drop : ∀ {l : List Val} {l' : List Value} (n : Nat), VsRel φ l l' → VsRel φ (l.drop n) (l'.drop n)
  | [], l', n, h => by rw [show l' = [] from h]; simp [VsRel]
  | a :: l, l', 0, h => by simpa using h
  | a :: l, _, n + 1, ⟨b, s, e, hb, hs⟩ => by rw [e]; simpa using VsRel.drop n hs

theorem VsRel.seg {l : List Val} {l' : List Value} (h : VsRel φ l l') (o n : Nat) : VsRel φ (seg l o n) ((l'.drop o).take n) := (h.drop o).take n

theorem VsRel.splice {l : List Val} {l' : List Value} {r : List Val} {r' : List Value} (h : VsRel φ l l') (h' : VsRel φ r r') (o : Nat) :
    VsRel φ (splice l o r) (l'.take o ++ r' ++ l'.drop (o + r'.length)) := by
  unfold Am.splice
  rw [h'.length]
  exact ((h.take o).append h').append (h.drop _)

theorem VsRel.replicate_undef (l : List Value) : VsRel φ (List.replicate l.length .undef) l := by
  induction l with
  | nil => rfl
  | cons a l ih => exact ⟨a, l, rfl, trivial, ih⟩

/-- what a value of one cell stands for is one cell -/
theorem VRel.plain {v : Val} {w : Value} (hv : v.one = true) (h : VRel φ v w) : w.cells = #[w] ∧ w.oneCell' = true := by
  cases v with
  | undef => simp [Val.one] at hv
  | agg cs => simp [Val.one] at hv
  | tup cs => simp [Val.one] at hv
  | bool b => rw [show w = _ from h]; exact ⟨rfl, rfl⟩
  | int k n => rw [show w = _ from h]; exact ⟨rfl, rfl⟩
  | str s => rw [show w = _ from h]; exact ⟨rfl, rfl⟩
  | ptr a => cases a with
    | none => rw [show w = _ from h]; exact ⟨rfl, rfl⟩
    | some a => obtain ⟨_, rfl, _⟩ := h; exact ⟨rfl, rfl⟩
  | slice a n c => cases a with
    | none => cases c with
      | ex c => rw [show w = _ from h]; exact ⟨rfl, rfl⟩
      | op e => exact (show False from h).elim
    | some a => cases c with
      | ex c => obtain ⟨_, rfl, _⟩ := h; exact ⟨rfl, rfl⟩
      | op e => obtain ⟨_, _, rfl, _⟩ := h; exact ⟨rfl, rfl⟩
  | map r => cases r with
    | none => rw [show w = _ from h]; exact ⟨rfl, rfl⟩
    | some r => obtain ⟨_, rfl, _⟩ := h; exact ⟨rfl, rfl⟩
  | fn f p q => obtain ⟨_, _, rfl, _⟩ := h; exact ⟨rfl, rfl⟩
  | nilFn => rw [show w = _ from h]; exact ⟨rfl, rfl⟩
  | yld l => obtain ⟨_, rfl, _⟩ := h; exact ⟨rfl, rfl⟩
  | nilIface => rw [show w = _ from h]; exact ⟨rfl, rfl⟩
  | iface t x => obtain ⟨_, rfl, _⟩ := h; exact ⟨rfl, rfl⟩

theorem VRel.cells {v : Val} {w : Value} (hv : v ≠ .undef) (h : VRel φ v w) : VsRel φ v.cells w.cells.toList := by
  cases v with
  | undef => exact absurd rfl hv
  | agg cs => obtain ⟨cs', rfl, h⟩ := h; exact h
  | tup cs => obtain ⟨cs', rfl, h⟩ := h; exact ⟨_, [], rfl, ⟨cs', rfl, h⟩, rfl⟩
  | _ => rw [(h.plain rfl).1]; exact ⟨w, [], rfl, h, rfl⟩

theorem VRel.one {v : Val} {w : Value} (hv : v.one = true) (h : VRel φ v w) : w.oneCell' = true := (h.plain hv).2

theorem VsRel.ones : ∀ {l : List Val} {l' : List Value}, l.all Val.one = true → VsRel φ l l' → ∀ x ∈ l', x.oneCell' = true
  | [], l', _, h, x, hx => by rw [show l' = [] from h] at hx; cases hx
  | a :: l, _, ho, ⟨b, s, e, hb, hs⟩, x, hx => by
    simp only [List.all_cons, Bool.and_eq_true] at ho
    subst e
    rcases List.mem_cons.1 hx with rfl | hx
    · exact hb.one ho.1
    · exact VsRel.ones ho.2 hs x hx
end
end Am
