/- The heap's laws, and how the abstract heap stands to the model's world. -/
import Derived.Test.YtbmfehgkbgdajaaGreatDoorAmRel
set_option linter.all false
namespace Am
open Go (IntKind BinOp UnOp FuncId TypeId Program Value World Addr Obj)

namespace PM
variable {α : Type}
theorem get_single : ∀ (f k j : Nat) (v : α), k ≤ f → (single f k v).get j = if j = k then some v else none := by
  intro f
  induction f with
  | zero =>
    intro k j v h
    obtain rfl : k = 0 := by omega
    by_cases hj : j = 0
    · subst hj; simp [single, get]
    · simp [single, get, hj]
  | succ f ih =>
    intro k j v h
    unfold single
    by_cases hk : k = 0
    · subst hk
      by_cases hj : j = 0
      · subst hj; simp [get]
      · simp [get, hj]
    · rw [if_neg hk]
      by_cases hk2 : k % 2 = 1
      · rw [if_pos hk2]
        unfold get
        by_cases hj : j = 0
        · subst hj; simp; intro h0; exact absurd h0.symm hk
        · rw [if_neg hj]
          by_cases hj2 : j % 2 = 1
          · rw [if_pos hj2, ih _ _ _ (by omega)]
            have : (j / 2 = k / 2) ↔ (j = k) := by omega
            simp [this]
          · rw [if_neg hj2]
            have : j ≠ k := by omega
            simp [get, this]
      · rw [if_neg hk2]
        unfold get
        by_cases hj : j = 0
        · subst hj; simp; intro h0; exact absurd h0.symm hk
        · rw [if_neg hj]
          by_cases hj2 : j % 2 = 1
          · rw [if_pos hj2]
            have : j ≠ k := by omega
            simp [get, this]
          · rw [if_neg hj2, ih _ _ _ (by omega)]
            have : (j / 2 - 1 = k / 2 - 1) ↔ (j = k) := by omega
            simp [this]

theorem get_set : ∀ (m : PM α) (k j : Nat) (v : α), (m.set k v).get j = if j = k then some v else m.get j := by
  intro m
  induction m with
  | leaf => intro k j v; simp only [set]; rw [get_single _ _ _ _ (Nat.le_refl _)]; simp [get]
  | node l x r ihl ihr =>
    intro k j v
    simp only [set]
    by_cases hk : k = 0
    · subst hk
      by_cases hj : j = 0
      · subst hj; simp [get]
      · simp [get, hj]
    · rw [if_neg hk]
      by_cases hk2 : k % 2 = 1
      · rw [if_pos hk2]
        simp only [get]
        by_cases hj : j = 0
        · subst hj; simp; intro h0; exact absurd h0.symm hk
        · simp only [if_neg hj]
          by_cases hj2 : j % 2 = 1
          · simp only [if_pos hj2, ihl]
            have : (j / 2 = k / 2) ↔ (j = k) := by omega
            simp [this]
          · have : j ≠ k := by omega
            simp [hj2, this]
      · rw [if_neg hk2]
        simp only [get]
        by_cases hj : j = 0
        · subst hj; simp; intro h0; exact absurd h0.symm hk
        · simp only [if_neg hj]
          by_cases hj2 : j % 2 = 1
          · have : j ≠ k := by omega
            simp [hj2, this]
          · simp only [if_neg hj2, ihr]
            have : (j / 2 - 1 = k / 2 - 1) ↔ (j = k) := by omega
            simp [this]

theorem get_del : ∀ (m : PM α) (k j : Nat), (m.del k).get j = if j = k then none else m.get j := by
  intro m
  induction m with
  | leaf => intro k j; simp [del, get]
  | node l x r ihl ihr =>
    intro k j
    simp only [del]
    by_cases hk : k = 0
    · subst hk
      by_cases hj : j = 0
      · subst hj; simp [get]
      · simp [get, hj]
    · rw [if_neg hk]
      by_cases hk2 : k % 2 = 1
      · rw [if_pos hk2]
        simp only [get]
        by_cases hj : j = 0
        · subst hj; simp; intro h0; exact absurd h0.symm hk
        · simp only [if_neg hj]
          by_cases hj2 : j % 2 = 1
          · simp only [if_pos hj2, ihl]
            have : (j / 2 = k / 2) ↔ (j = k) := by omega
            simp [this]
          · have : j ≠ k := by omega
            simp [hj2, this]
      · rw [if_neg hk2]
        simp only [get]
        by_cases hj : j = 0
        · subst hj; simp; intro h0; exact absurd h0.symm hk
        · simp only [if_neg hj]
          by_cases hj2 : j % 2 = 1
          · have : j ≠ k := by omega
            simp [hj2, this]
          · simp only [if_neg hj2, ihr]
            have : (j / 2 - 1 = k / 2 - 1) ↔ (j = k) := by omega
            simp [this]
end PM

/-! ### Blocks -/

def MRel (φ : Phi) : List MEnt → List Go.MapEntry → Prop
  | [], l => l = []
  | e :: r, l => ∃ e' s, l = e' :: s ∧ VRel φ e.key e'.key ∧ VRel φ e.val e'.val ∧ e'.born = e.born ∧ MRel φ r s

theorem MRel.mono {φ φ' : Phi} (h : PLe φ φ') : ∀ {l : List MEnt} {l' : List Go.MapEntry}, MRel φ l l' → MRel φ' l l'
  | [], _, hr => hr
  | _ :: _, _, ⟨e', s, e, h1, h2, h3, h4⟩ => ⟨e', s, e, h1.mono h, h2.mono h, h3, MRel.mono h h4⟩

def RowRel (φ : Phi) (r : Row) (arr : Array Value) (e : TypeId) (fr : Nat × Nat) (sz : Nat) : Prop :=
  arr.size = sz ∧ r.cs.length ≤ sz ∧ VsRel φ r.cs (arr.toList.take r.cs.length) ∧
  (r.ro = false → ∀ i, r.frz ≤ i → i < sz → ¬ (fr.1 ≤ i ∧ i < fr.2)) ∧ (r.clean = true → fr = (0, 0)) ∧ (∀ t, r.elem = some t → e = t)

/-- the world in which the outermost call began, and the program -/
structure Ctx where
  heap : Array Obj
  os : Go.Os
  output : Array (Nat × ByteArray)
  P : Program

def stOf : LState → Go.LoopState
  | .ready => .ready
  | .busy => .busy
  | .done => .done
  | .exhausted => .exhausted

def jumpOf : Option Jump → Option Go.Code
  | none => none
  | some .ret => some .ret
  | some (.exit i) => some (.exit i)

/-- the record of a range over a function -/
def LoopRel (P : Program) (φ : Phi) (st : LState) (pend : Option Jump) (E : PM Val) (ps : List Nat) (as body : ACode) (d : Nat) (r : Go.Loop) : Prop :=
  r.state = stOf st ∧ r.pending = jumpOf pend ∧ r.params.toList = ps ∧ BRel φ d r.defers ∧ (∀ i, VRel φ ((PM.get E i).getD .undef) (r.tmps.getD i Go.undef)) ∧
  ∃ N, N ≤ r.tmps.size ∧ (∀ p ∈ ps, p < N) ∧ as = compCode P N true r.assign ∧ body = compCode P N true r.body

def BlkRel (P : Program) (φ : Phi) (w : World) (c sz : Nat) : Blk → Prop
  | .row r => ∃ arr e fr, w.heap[c]? = some (.cells arr e fr) ∧ RowRel φ r arr e fr sz
  | .map es clock => ∃ es', w.heap[c]? = some (.map es' clock) ∧ MRel φ es es'.toList
  | .sIter s pos => w.heap[c]? = some (.stringIter ⟨s.toArray⟩ pos)
  | .mIter m since seen last => ∃ m', w.heap[c]? = some (.mapIter m' since seen.toArray last) ∧ VRel φ (.map m) (.map m')
  | .dfr t => w.heap[c]? = some (.deferred (if t then none else some []))
  | .loop st pend E ps as body d => ∃ r, w.heap[c]? = some (.loop r) ∧ LoopRel P φ st pend E ps as body d r

theorem RowRel.mono {φ φ' : Phi} (h : PLe φ φ') {r : Row} {arr : Array Value} {e : TypeId} {fr : Nat × Nat} {sz : Nat} (hr : RowRel φ r arr e fr sz) : RowRel φ' r arr e fr sz :=
  ⟨hr.1, hr.2.1, hr.2.2.1.mono h, hr.2.2.2⟩

theorem BlkRel.mono {P : Program} {φ φ' : Phi} (h : PLe φ φ') {w : World} {c sz : Nat} {b : Blk} (hr : BlkRel P φ w c sz b) : BlkRel P φ' w c sz b := by
  cases b with
  | row r => obtain ⟨arr, e, fr, hw, hr⟩ := hr; exact ⟨arr, e, fr, hw, hr.mono h⟩
  | map es clock => obtain ⟨es', hw, hr⟩ := hr; exact ⟨es', hw, hr.mono h⟩
  | sIter s pos => exact hr
  | mIter m since seen last => obtain ⟨m', hw, hr⟩ := hr; exact ⟨m', hw, VRel.mono h hr⟩
  | dfr t => exact hr
  | loop st pend E ps as body d => obtain ⟨r, hw, h1, h2, h3, h4, h5, h6⟩ := hr; exact ⟨r, hw, h1, h2, h3, h4.mono h, fun i => (h5 i).mono h, h6⟩

theorem BlkRel.heap {P : Program} {φ : Phi} {w w' : World} {c sz : Nat} {b : Blk} (hw : w'.heap[c]? = w.heap[c]?) (hr : BlkRel P φ w c sz b) : BlkRel P φ w' c sz b := by
  cases b with
  | row r => obtain ⟨arr, e, fr, h, hr⟩ := hr; exact ⟨arr, e, fr, hw.trans h, hr⟩
  | map es clock => obtain ⟨es', h, hr⟩ := hr; exact ⟨es', hw.trans h, hr⟩
  | sIter s pos => exact hw.trans hr
  | mIter m since seen last => obtain ⟨m', h, hr⟩ := hr; exact ⟨m', hw.trans h, hr⟩
  | dfr t => exact hw.trans hr
  | loop st pend E ps as body d => obtain ⟨r, h, hr⟩ := hr; exact ⟨r, hw.trans h, hr⟩

def Blk.ro : Blk → Bool
  | .row r => r.ro
  | _ => false

/-- The abstract state stands for the world. W0: the world in which the outermost call began. -/
structure R (W0 : Ctx) (φ : Phi) (s : St) (w : World) : Prop where
  blk : ∀ b c sz x, φ b = .at c sz → s.heap.get b = some x → BlkRel W0.P φ w c sz x
  live : ∀ b c sz, φ b = .at c sz → ∃ x, s.heap.get b = some x
  gone : ∀ b, φ b = .dead → s.heap.get b = none
  fresh : ∀ b, s.next ≤ b → φ b = .unk ∧ s.heap.get b = none
  inj : ∀ b b' c sz sz' x, φ b = .at c sz → φ b' = .at c sz' → s.heap.get b = some x → x.ro = false → b' = b
  lt : ∀ b c sz, φ b = .at c sz → c < w.heap.size
  own : ∀ b c sz x, φ b = .at c sz → s.heap.get b = some x → x.ro = false → W0.heap.size ≤ c
  old : ∀ c, c < W0.heap.size → w.heap[c]? = W0.heap[c]?
  size : W0.heap.size ≤ w.heap.size
  os : w.os = W0.os
  out : w.output = W0.output
  floor : s.floor ≤ s.next

/-- What one step of the abstract machine may have done to what the relation says. -/
structure Post (W0 : Ctx) (φ : Phi) (s : St) (w : World) (φ' : Phi) (s' : St) (w' : World) : Prop where
  rel : R W0 φ' s' w'
  ple : PLe φ φ'
  /-- what was not known, or not there yet, below the old end stays so -/
  stay : ∀ b, b < s.next → φ' b = φ b ∨ (φ' b = .dead ∧ φ b ≠ .unk ∧ s.floor ≤ b)
  low : ∀ b, b < s.floor → s'.heap.get b = s.heap.get b
  unk : ∀ b, b < s.next → φ b = .unk → s'.heap.get b = s.heap.get b
  next : s.next ≤ s'.next
  floor : s'.floor = s.floor
  grew : w.heap.size ≤ w'.heap.size
  frame : ∀ c, c < w.heap.size → (∀ b sz, s.floor ≤ b → φ b ≠ .at c sz) → w'.heap[c]? = w.heap[c]?
  /-- a new block lies in new memory, or where a block lay that could be written -/
  new : ∀ b c sz, s.next ≤ b → φ' b = .at c sz → w.heap.size ≤ c ∨ ∃ b0 sz0, s.floor ≤ b0 ∧ φ b0 = .at c sz0

theorem Post.refl {W0 : Ctx} {φ : Phi} {s : St} {w : World} (h : R W0 φ s w) : Post W0 φ s w φ s w :=
  ⟨h, PLe.refl φ, fun _ _ => .inl rfl, fun _ _ => rfl, fun _ _ _ => rfl, Nat.le_refl _, rfl, Nat.le_refl _, fun _ _ _ => rfl,
    fun b c sz hb he => absurd he (by rw [(h.fresh b hb).1]; simp)⟩

theorem Post.trans {W0 : Ctx} {φ φ' φ'' : Phi} {s s' s'' : St} {w w' w'' : World} (h0 : R W0 φ s w) (h : Post W0 φ s w φ' s' w') (h' : Post W0 φ' s' w' φ'' s'' w'') :
    Post W0 φ s w φ'' s'' w'' := by
  refine ⟨h'.rel, h.ple.trans h'.ple, ?_, ?_, ?_, Nat.le_trans h.next h'.next, h'.floor.trans h.floor, Nat.le_trans h.grew h'.grew, ?_, ?_⟩
  · intro b hb
    have hb' : b < s'.next := Nat.lt_of_lt_of_le hb h.next
    rcases h'.stay b hb' with h2 | ⟨h2, h3, h4⟩
    · rcases h.stay b hb with h1 | h1
      · exact .inl (h2.trans h1)
      · exact .inr ⟨h2.trans h1.1, h1.2⟩
    · rcases h.stay b hb with h1 | h1
      · exact .inr ⟨h2, h1 ▸ h3, h.floor ▸ h4⟩
      · exact .inr ⟨h2, h1.2⟩
  · intro b hb
    rw [h'.low b (by rw [h.floor]; exact hb), h.low b hb]
  · intro b hb hu
    have h1 : φ' b = .unk := by
      rcases h.stay b hb with h1 | h1
      · exact h1.trans hu
      · exact absurd hu h1.2.1
    rw [h'.unk b (Nat.lt_of_lt_of_le hb h.next) h1, h.unk b hb hu]
  · intro c hc hn
    rw [h'.frame c (Nat.lt_of_lt_of_le hc h.grew) ?_, h.frame c hc hn]
    intro b sz hb he
    rw [h.floor] at hb
    by_cases hlt : b < s.next
    · rcases h.stay b hlt with h1 | h1
      · exact hn b sz hb (h1 ▸ he)
      · rw [h1.1] at he; cases he
    · rcases h.new b c sz (by omega) he with h1 | ⟨b0, sz0, h1, h2⟩
      · omega
      · exact hn b0 sz0 h1 h2
  · intro b c sz hb he
    have old : φ' b = .at c sz → w.heap.size ≤ c ∨ ∃ b0 sz0, s.floor ≤ b0 ∧ φ b0 = .at c sz0 := h.new b c sz hb
    by_cases hlt : b < s'.next
    · rcases h'.stay b hlt with h1 | h1
      · exact old (h1 ▸ he)
      · rw [h1.1] at he; cases he
    · rcases h'.new b c sz (by omega) he with h1 | ⟨b0, sz0, h1, h2⟩
      · exact .inl (Nat.le_trans h.grew h1)
      · rw [h.floor] at h1
        by_cases hb0 : b0 < s.next
        · rcases h.stay b0 hb0 with h3 | h3
          · exact .inr ⟨b0, sz0, h1, h3 ▸ h2⟩
          · rw [h3.1] at h2; cases h2
        · exact h.new b0 c sz0 (by omega) h2
end Am
