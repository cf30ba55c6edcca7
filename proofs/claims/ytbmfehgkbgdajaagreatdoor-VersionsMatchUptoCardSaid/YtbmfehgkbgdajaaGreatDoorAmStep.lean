/- Elementary steps of the two heaps side by side. -/
import Derived.Test.YtbmfehgkbgdajaaGreatDoorAmHeap
set_option linter.all false
namespace Am
open Go (IntKind BinOp UnOp FuncId TypeId Program Value World Addr Obj)

def Phi.ext (φ : Phi) (b : Nat) (t : Tri) : Phi := fun i => if i = b then t else φ i

theorem Phi.ext_same (φ : Phi) (b : Nat) (t : Tri) : φ.ext b t b = t := by simp [Phi.ext]
theorem Phi.ext_ne (φ : Phi) {b i : Nat} (t : Tri) (h : i ≠ b) : φ.ext b t i = φ i := by simp [Phi.ext, h]

variable {W0 : Ctx} {φ : Phi} {s : St} {w w' : World}

theorem R.ple_ext (h : R W0 φ s w) (t : Tri) : PLe φ (φ.ext s.next t) := by
  intro b
  by_cases hb : b = s.next
  · subst hb; exact .inl (h.fresh _ (Nat.le_refl _)).1
  · exact .inr (.inl (Phi.ext_ne φ t hb))

/-- nothing but what is not memory has changed -/
theorem R.same (h : R W0 φ s w) (hh : w'.heap = w.heap) (ho : w'.os = w.os) (hu : w'.output = w.output) : Post W0 φ s w φ s w' := by
  refine ⟨⟨?_, h.live, h.gone, h.fresh, h.inj, ?_, h.own, ?_, ?_, ho.trans h.os, hu.trans h.out, h.floor⟩, PLe.refl φ, fun _ _ => .inl rfl, fun _ _ => rfl, fun _ _ _ => rfl, Nat.le_refl _, rfl, by rw [hh]; exact Nat.le_refl _, fun _ _ _ => by rw [hh], fun b c sz hb he => absurd he (by rw [(h.fresh b hb).1]; simp)⟩
  · intro b c sz x h1 h2; exact (h.blk b c sz x h1 h2).heap (by rw [hh])
  · rw [hh]; exact h.lt
  · rw [hh]; exact h.old
  · rw [hh]; exact h.size

/-- a new block -/
theorem R.alloc (h : R W0 φ s w) (x : Blk) (o : Obj) (sz : Nat) (hh : w'.heap = w.heap.push o) (ho : w'.os = w.os) (hu : w'.output = w.output)
    (hx : BlkRel W0.P (φ.ext s.next (.at w.heap.size sz)) w' w.heap.size sz x) :
    Post W0 φ s w (φ.ext s.next (.at w.heap.size sz)) (s.alloc x) w' := by
  have hple := h.ple_ext (.at w.heap.size sz)
  have hold : ∀ c, c < w.heap.size → w'.heap[c]? = w.heap[c]? := by
    intro c hc; rw [hh, Array.getElem?_push_lt hc, Array.getElem?_eq_getElem hc]
  have hsz : w'.heap.size = w.heap.size + 1 := by rw [hh]; simp
  have hget : ∀ b, (s.alloc x).heap.get b = if b = s.next then some x else s.heap.get b := fun b => PM.get_set _ _ _ _
  have hφ : ∀ b c z, φ.ext s.next (.at w.heap.size sz) b = .at c z → (b = s.next ∧ c = w.heap.size ∧ z = sz) ∨ (b ≠ s.next ∧ φ b = .at c z) := by
    intro b c z he
    by_cases hb : b = s.next
    · subst hb; rw [Phi.ext_same] at he; injection he with h1 h2; exact .inl ⟨rfl, h1.symm, h2.symm⟩
    · rw [Phi.ext_ne _ _ hb] at he; exact .inr ⟨hb, he⟩
  refine ⟨⟨?_, ?_, ?_, ?_, ?_, ?_, ?_, ?_, ?_, ho.trans h.os, hu.trans h.out, Nat.le_succ_of_le h.floor⟩, hple, ?_, ?_, ?_, Nat.le_succ _, rfl, by omega, fun c hc _ => hold c hc, ?_⟩
  · intro b c z y h1 h2
    rw [hget] at h2
    rcases hφ b c z h1 with ⟨rfl, rfl, rfl⟩ | ⟨hb, h1⟩
    · rw [if_pos rfl] at h2; injection h2 with h2; subst h2; exact hx
    · rw [if_neg hb] at h2
      exact ((h.blk b c z y h1 h2).heap (hold c (h.lt b c z h1))).mono hple
  · intro b c z h1
    rw [hget]
    rcases hφ b c z h1 with ⟨rfl, rfl, rfl⟩ | ⟨hb, h1⟩
    · exact ⟨x, by simp⟩
    · rw [if_neg hb]; exact h.live b c z h1
  · intro b h1
    rw [hget]
    by_cases hb : b = s.next
    · subst hb; rw [Phi.ext_same] at h1; cases h1
    · rw [Phi.ext_ne _ _ hb] at h1; rw [if_neg hb]; exact h.gone b h1
  · intro b hb
    have hb' : s.next + 1 ≤ b := hb
    have hne : b ≠ s.next := by omega
    rw [Phi.ext_ne _ _ hne, hget, if_neg hne]
    exact h.fresh b (by omega)
  · intro b b' c z z' y h1 h2 h3 h4
    rw [hget] at h3
    rcases hφ b c z h1 with ⟨rfl, rfl, rfl⟩ | ⟨hb, g1⟩
    · rcases hφ b' _ z' h2 with ⟨rfl, _, _⟩ | ⟨hb', h2⟩
      · rfl
      · have := h.lt b' _ z' h2; omega
    · clear h1
      rcases hφ b' c z' h2 with ⟨rfl, rfl, rfl⟩ | ⟨hb', h2⟩
      · have := h.lt b _ z g1; omega
      · rw [if_neg hb] at h3; exact h.inj b b' c z z' y g1 h2 h3 h4
  · intro b c z h1
    rcases hφ b c z h1 with ⟨rfl, rfl, rfl⟩ | ⟨hb, h1⟩
    · omega
    · have := h.lt b c z h1; omega
  · intro b c z y h1 h2 h3
    rw [hget] at h2
    rcases hφ b c z h1 with ⟨rfl, rfl, rfl⟩ | ⟨hb, h1⟩
    · exact h.size
    · rw [if_neg hb] at h2; exact h.own b c z y h1 h2 h3
  · intro c hc
    rw [hold c (Nat.lt_of_lt_of_le hc h.size)]; exact h.old c hc
  · have := h.size; omega
  · intro b hb; exact .inl (Phi.ext_ne _ _ (by omega))
  · intro b hb; rw [hget, if_neg (by have := h.floor; omega)]
  · intro b hb _; rw [hget, if_neg (by omega)]
  · intro b c z hb he
    rcases hφ b c z he with ⟨rfl, rfl, rfl⟩ | ⟨hne, h1⟩
    · exact .inl (Nat.le_refl _)
    · rw [(h.fresh b hb).1] at h1; cases h1

/-- a block that can be written gets another content -/
theorem R.put (h : R W0 φ s w) {b c sz : Nat} {x x' : Blk} {o : Obj} (hb : φ b = .at c sz) (hx : s.heap.get b = some x) (hro : x.ro = false) (hfl : s.floor ≤ b)
    (hro' : x'.ro = false) (hh : w'.heap = w.heap.setIfInBounds c o) (ho : w'.os = w.os) (hu : w'.output = w.output) (hx' : BlkRel W0.P φ w' c sz x') :
    Post W0 φ s w φ (s.put b x') w' := by
  have hget : ∀ i, (s.put b x').heap.get i = if i = b then some x' else s.heap.get i := fun i => PM.get_set _ _ _ _
  have hold : ∀ i, i ≠ c → w'.heap[i]? = w.heap[i]? := by
    intro i hi; rw [hh, Array.getElem?_setIfInBounds_ne (Ne.symm hi)]
  have hsz : w'.heap.size = w.heap.size := by rw [hh]; simp
  have hbn : b < s.next := by
    rcases Nat.lt_or_ge b s.next with h1 | h1
    · exact h1
    · rw [(h.fresh b h1).1] at hb; cases hb
  refine ⟨⟨?_, ?_, ?_, ?_, ?_, ?_, ?_, ?_, ?_, ho.trans h.os, hu.trans h.out, h.floor⟩, PLe.refl φ, fun _ _ => .inl rfl, ?_, ?_, Nat.le_refl _, rfl, by rw [hsz]; exact Nat.le_refl _, ?_, fun i c z hi he => absurd he (by rw [(h.fresh i hi).1]; simp)⟩
  · intro i d z y h1 h2
    rw [hget] at h2
    by_cases hi : i = b
    · subst hi
      rw [if_pos rfl] at h2; injection h2 with h2; subst h2
      rw [hb] at h1; injection h1 with h1 h1'; subst h1; subst h1'; exact hx'
    · rw [if_neg hi] at h2
      refine (h.blk i d z y h1 h2).heap (hold d ?_)
      intro hd; subst hd
      exact hi (h.inj b i d sz z x hb h1 hx hro)
  · intro i d z h1
    rw [hget]
    by_cases hi : i = b
    · exact ⟨x', by simp [hi]⟩
    · rw [if_neg hi]; exact h.live i d z h1
  · intro i h1
    rw [hget]
    by_cases hi : i = b
    · subst hi; rw [hb] at h1; cases h1
    · rw [if_neg hi]; exact h.gone i h1
  · intro i hi
    have hi' : s.next ≤ i := hi
    refine ⟨(h.fresh i hi').1, ?_⟩
    rw [hget, if_neg (by omega)]; exact (h.fresh i hi').2
  · intro i j d z z' y h1 h2 h3 h4
    rw [hget] at h3
    by_cases hi : i = b
    · subst hi; exact h.inj i j d z z' x h1 h2 hx hro
    · rw [if_neg hi] at h3; exact h.inj i j d z z' y h1 h2 h3 h4
  · intro i d z h1; rw [hsz]; exact h.lt i d z h1
  · intro i d z y h1 h2 h3
    rw [hget] at h2
    by_cases hi : i = b
    · subst hi; exact h.own i d z x h1 hx hro
    · rw [if_neg hi] at h2; exact h.own i d z y h1 h2 h3
  · intro i hi
    rw [hold i ?_]; exact h.old i hi
    have := h.own b c sz x hb hx hro; omega
  · rw [hsz]; exact h.size
  · intro i hi; rw [hget, if_neg (by omega)]
  · intro i hi hu'; rw [hget, if_neg ?_]; intro e; subst e; rw [hb] at hu'; cases hu'
  · intro i hi hn
    exact hold i (fun e => hn b sz hfl (e ▸ hb))

/-- a block is given up -/
theorem R.kill (h : R W0 φ s w) {b c sz : Nat} (hb : φ b = .at c sz) (hfl : s.floor ≤ b) : Post W0 φ s w (φ.ext b .dead) (s.kill b) w := by
  have hget : ∀ i, (s.kill b).heap.get i = if i = b then none else s.heap.get i := fun i => PM.get_del _ _ _
  have hple : PLe φ (φ.ext b .dead) := by
    intro i
    by_cases hi : i = b
    · subst hi; exact .inr (.inr (Phi.ext_same _ _ _))
    · exact .inr (.inl (Phi.ext_ne _ _ hi))
  have hbn : b < s.next := by
    rcases Nat.lt_or_ge b s.next with h1 | h1
    · exact h1
    · rw [(h.fresh b h1).1] at hb; cases hb
  have hφ : ∀ i d z, φ.ext b .dead i = .at d z → i ≠ b ∧ φ i = .at d z := by
    intro i d z he
    by_cases hi : i = b
    · subst hi; rw [Phi.ext_same] at he; cases he
    · rw [Phi.ext_ne _ _ hi] at he; exact ⟨hi, he⟩
  refine ⟨⟨?_, ?_, ?_, ?_, ?_, ?_, ?_, h.old, h.size, h.os, h.out, h.floor⟩, hple, ?_, ?_, ?_, Nat.le_refl _, rfl, Nat.le_refl _, fun _ _ _ => rfl, ?_⟩
  · intro i d z y h1 h2
    obtain ⟨hi, h1⟩ := hφ i d z h1
    rw [hget, if_neg hi] at h2
    exact (h.blk i d z y h1 h2).mono hple
  · intro i d z h1
    obtain ⟨hi, h1⟩ := hφ i d z h1
    rw [hget, if_neg hi]; exact h.live i d z h1
  · intro i h1
    rw [hget]
    by_cases hi : i = b
    · simp [hi]
    · rw [Phi.ext_ne _ _ hi] at h1; rw [if_neg hi]; exact h.gone i h1
  · intro i hi
    have hi' : s.next ≤ i := hi
    have hne : i ≠ b := by omega
    rw [Phi.ext_ne _ _ hne, hget, if_neg hne]
    exact h.fresh i hi'
  · intro i j d z z' y h1 h2 h3 h4
    obtain ⟨hi, h1⟩ := hφ i d z h1
    obtain ⟨hj, h2⟩ := hφ j d z' h2
    rw [hget, if_neg hi] at h3
    exact h.inj i j d z z' y h1 h2 h3 h4
  · intro i d z h1
    exact h.lt i d z (hφ i d z h1).2
  · intro i d z y h1 h2 h3
    obtain ⟨hi, h1⟩ := hφ i d z h1
    rw [hget, if_neg hi] at h2
    exact h.own i d z y h1 h2 h3
  · intro i _
    by_cases hi : i = b
    · subst hi; exact .inr ⟨Phi.ext_same _ _ _, by rw [hb]; simp, hfl⟩
    · exact .inl (Phi.ext_ne _ _ hi)
  · intro i hi; rw [hget, if_neg (by omega)]
  · intro i hi hu; rw [hget, if_neg ?_]; intro e; subst e; rw [hb] at hu; cases hu
  · intro i d z hi he
    have := (hφ i d z he).2
    rw [(h.fresh i hi).1] at this; cases this

/-- a new abstract block in the place of one that is given up: appended to in place -/
theorem R.move (h : R W0 φ s w) {b c sz : Nat} {x x' : Blk} {o : Obj} (hb : φ b = .at c sz) (hx : s.heap.get b = some x) (hro : x.ro = false) (hfl : s.floor ≤ b)
    (hro' : x'.ro = false) (hh : w'.heap = w.heap.setIfInBounds c o) (ho : w'.os = w.os) (hu : w'.output = w.output)
    (hx' : BlkRel W0.P ((φ.ext b .dead).ext s.next (.at c sz)) w' c sz x') :
    Post W0 φ s w ((φ.ext b .dead).ext s.next (.at c sz)) ((s.kill b).alloc x') w' := by
  have hbn : b < s.next := by
    rcases Nat.lt_or_ge b s.next with h1 | h1
    · exact h1
    · rw [(h.fresh b h1).1] at hb; cases hb
  have hget : ∀ i, ((s.kill b).alloc x').heap.get i = if i = s.next then some x' else if i = b then none else s.heap.get i := by
    intro i
    show (PM.set _ _ _).get i = _
    rw [PM.get_set]
    show (if i = s.next then _ else (PM.del _ _).get i) = _
    rw [PM.get_del]
  have hold : ∀ i, i ≠ c → w'.heap[i]? = w.heap[i]? := by
    intro i hi; rw [hh, Array.getElem?_setIfInBounds_ne (Ne.symm hi)]
  have hsz : w'.heap.size = w.heap.size := by rw [hh]; simp
  have hple : PLe φ ((φ.ext b .dead).ext s.next (.at c sz)) := by
    intro i
    by_cases hi : i = s.next
    · subst hi; exact .inl (h.fresh _ (Nat.le_refl _)).1
    · rw [Phi.ext_ne _ _ hi]
      by_cases hi : i = b
      · subst hi; exact .inr (.inr (Phi.ext_same _ _ _))
      · exact .inr (.inl (Phi.ext_ne _ _ hi))
  have hφ : ∀ i d z, (φ.ext b .dead).ext s.next (.at c sz) i = .at d z → (i = s.next ∧ d = c ∧ z = sz) ∨ (i ≠ s.next ∧ i ≠ b ∧ φ i = .at d z) := by
    intro i d z he
    by_cases hi : i = s.next
    · subst hi; rw [Phi.ext_same] at he; injection he with h1 h2; exact .inl ⟨rfl, h1.symm, h2.symm⟩
    · rw [Phi.ext_ne _ _ hi] at he
      by_cases hi' : i = b
      · subst hi'; rw [Phi.ext_same] at he; cases he
      · rw [Phi.ext_ne _ _ hi'] at he; exact .inr ⟨hi, hi', he⟩
  have hne : ∀ i d z, i ≠ b → φ i = .at d z → d ≠ c := fun i d z hi h1 e => hi (h.inj b i c sz z x hb (e ▸ h1) hx hro)
  refine ⟨⟨?_, ?_, ?_, ?_, ?_, ?_, ?_, ?_, ?_, ho.trans h.os, hu.trans h.out, Nat.le_succ_of_le h.floor⟩, hple, ?_, ?_, ?_, Nat.le_succ _, rfl, by rw [hsz]; exact Nat.le_refl _, ?_, ?_⟩
  · intro i d z y h1 h2
    rw [hget] at h2
    rcases hφ i d z h1 with ⟨rfl, rfl, rfl⟩ | ⟨hi, hib, h1⟩
    · rw [if_pos rfl] at h2; injection h2 with h2; subst h2; exact hx'
    · rw [if_neg hi, if_neg hib] at h2
      exact ((h.blk i d z y h1 h2).heap (hold d (hne i d z hib h1))).mono hple
  · intro i d z h1
    rw [hget]
    rcases hφ i d z h1 with ⟨rfl, rfl, rfl⟩ | ⟨hi, hib, h1⟩
    · exact ⟨x', by simp⟩
    · rw [if_neg hi, if_neg hib]; exact h.live i d z h1
  · intro i h1
    rw [hget]
    by_cases hi : i = s.next
    · subst hi; rw [Phi.ext_same] at h1; cases h1
    · rw [if_neg hi]
      by_cases hib : i = b
      · simp [hib]
      · rw [Phi.ext_ne _ _ hi, Phi.ext_ne _ _ hib] at h1; rw [if_neg hib]; exact h.gone i h1
  · intro i hi
    have hi' : s.next + 1 ≤ i := hi
    have h1 : i ≠ s.next := by omega
    have h2 : i ≠ b := by omega
    rw [Phi.ext_ne _ _ h1, Phi.ext_ne _ _ h2, hget, if_neg h1, if_neg h2]
    exact h.fresh i (by omega)
  · intro i j d z z' y h1 h2 h3 h4
    rw [hget] at h3
    rcases hφ i d z h1 with ⟨rfl, rfl, rfl⟩ | ⟨hi, hib, g1⟩
    · rcases hφ j _ z' h2 with ⟨rfl, _, _⟩ | ⟨hj, hjb, h2⟩
      · rfl
      · exact absurd rfl (hne j _ z' hjb h2)
    · clear h1
      rcases hφ j d z' h2 with ⟨rfl, rfl, rfl⟩ | ⟨hj, hjb, h2⟩
      · exact absurd rfl (hne i _ z hib g1)
      · rw [if_neg hi, if_neg hib] at h3; exact h.inj i j d z z' y g1 h2 h3 h4
  · intro i d z h1
    rw [hsz]
    rcases hφ i d z h1 with ⟨rfl, rfl, rfl⟩ | ⟨hi, hib, h1⟩
    · exact h.lt b _ _ hb
    · exact h.lt i d z h1
  · intro i d z y h1 h2 h3
    rw [hget] at h2
    rcases hφ i d z h1 with ⟨rfl, rfl, rfl⟩ | ⟨hi, hib, h1⟩
    · exact h.own b _ _ x hb hx hro
    · rw [if_neg hi, if_neg hib] at h2; exact h.own i d z y h1 h2 h3
  · intro i hi
    rw [hold i ?_]; exact h.old i hi
    have := h.own b c sz x hb hx hro; omega
  · rw [hsz]; exact h.size
  · intro i hi
    rw [Phi.ext_ne _ _ (by omega)]
    by_cases hib : i = b
    · subst hib; exact .inr ⟨Phi.ext_same _ _ _, by rw [hb]; simp, hfl⟩
    · exact .inl (Phi.ext_ne _ _ hib)
  · intro i hi; rw [hget, if_neg (by have := h.floor; omega), if_neg (by omega)]
  · intro i hi hu'; rw [hget, if_neg (by omega), if_neg ?_]; intro e; subst e; rw [hb] at hu'; cases hu'
  · intro i hi hn
    exact hold i (fun e => hn b sz hfl (e ▸ hb))
  · intro i d z hi he
    rcases hφ i d z he with ⟨rfl, rfl, rfl⟩ | ⟨hne', _, h1⟩
    · exact .inr ⟨b, _, hfl, hb⟩
    · rw [(h.fresh i hi).1] at h1; cases h1

/-! ### What a pointer leads to -/

theorem R.at_of_get (h : R W0 φ s w) {b : Nat} {x : Blk} (hx : s.heap.get b = some x) (hb : φ b ≠ .unk) : ∃ c sz, φ b = .at c sz := by
  cases he : φ b with
  | unk => exact absurd he hb
  | «at» c sz => exact ⟨c, sz, rfl⟩
  | dead => rw [h.gone b he] at hx; cases hx

theorem row?_some {s : St} {b : Nat} {r : Row} (h : s.row? b = some r) : s.heap.get b = some (.row r) := by
  unfold St.row? at h
  split at h
  · rename_i r' hr; injection h with h; subst h; exact hr
  · cases h

theorem R.row (h : R W0 φ s w) {b : Nat} {r : Row} (hr : s.row? b = some r) (hb : φ b ≠ .unk) :
    ∃ c sz arr e fr, φ b = .at c sz ∧ w.heap[c]? = some (.cells arr e fr) ∧ RowRel φ r arr e fr sz := by
  have hx := row?_some hr
  obtain ⟨c, sz, hc⟩ := h.at_of_get hx hb
  obtain ⟨arr, e, fr, h1, h2⟩ := h.blk b c sz _ hc hx
  exact ⟨c, sz, arr, e, fr, hc, h1, h2⟩

theorem ARel.notUnk {a : Nat × Nat} {a' : Addr} (h : ARel φ a a') : φ a.1 ≠ .unk := by
  intro he; unfold ARel at h; rw [he] at h; exact h

theorem ARel.eq {a : Nat × Nat} {a' : Addr} {c sz : Nat} (h : ARel φ a a') (hc : φ a.1 = .at c sz) : a' = ⟨c, a.2, none⟩ := by
  unfold ARel at h; rw [hc] at h; exact h

theorem ARel.mk {a : Nat × Nat} {c sz : Nat} (hc : φ a.1 = .at c sz) : ARel φ a ⟨c, a.2, none⟩ := by
  unfold ARel; rw [hc]

theorem ARel.add {a : Nat × Nat} {a' : Addr} (h : ARel φ a a') (n : Nat) : ARel φ (a.1, a.2 + n) (a'.add n) := by
  unfold ARel at *
  cases he : φ a.1 with
  | unk => rw [he] at h; exact h.elim
  | dead => trivial
  | «at» c sz =>
    rw [he] at h
    subst h
    show Addr.add _ _ = _
    unfold Addr.add
    by_cases hn : n = 0
    · simp [hn]
    · simp [hn]

/-- what a slice value leads to -/
theorem VRel.slice_some {a : Nat × Nat} {n : Nat} {cap : Cap} {v : Value} (h : VRel φ (.slice (some a) n cap) v) :
    ∃ a' c', v = .slice (some a') n c' ∧ φ a.1 ≠ .unk := by
  cases cap with
  | ex c => obtain ⟨a', e, hr⟩ := h; exact ⟨a', c, e, hr.notUnk⟩
  | op e =>
    obtain ⟨a', c', e', hr⟩ := h
    refine ⟨a', c', e', fun he => ?_⟩
    unfold SRel at hr; rw [he] at hr; exact hr

theorem addr_add (c o n : Nat) : (⟨c, o, none⟩ : Addr).add n = ⟨c, o + n, none⟩ := by
  unfold Addr.add; by_cases h : n = 0 <;> simp [h]

theorem cell_of {w : World} {c o : Nat} {arr : Array Value} {e : TypeId} {fr : Nat × Nat} (h : w.heap[c]? = some (.cells arr e fr)) : w.cell? ⟨c, o, none⟩ = arr[o]? := by
  simp [World.cell?, h]
theorem frozen_of {w : World} {c o : Nat} {arr : Array Value} {e : TypeId} {fr : Nat × Nat} (h : w.heap[c]? = some (.cells arr e fr)) : w.frozen? ⟨c, o, none⟩ = (decide (fr.1 ≤ o) && decide (o < fr.2)) := by
  obtain ⟨lo, hi⟩ := fr
  simp [World.frozen?, h]

theorem RowRel.cell {r : Row} {arr : Array Value} {e : TypeId} {fr : Nat × Nat} {sz : Nat} (h : RowRel φ r arr e fr sz) {o : Nat} {v : Val} (hv : r.cs[o]? = some v) :
    ∃ v', arr[o]? = some v' ∧ VRel φ v v' := by
  obtain ⟨v', h1, h2⟩ := h.2.2.1.get hv
  refine ⟨v', ?_, h2⟩
  have hlt : o < r.cs.length := by
    rcases Nat.lt_or_ge o r.cs.length with h3 | h3
    · exact h3
    · rw [List.getElem?_eq_none h3] at hv; cases hv
  rw [List.getElem?_take_of_lt hlt] at h1
  simpa using h1

theorem RowRel.seg {r : Row} {arr : Array Value} {e : TypeId} {fr : Nat × Nat} {sz : Nat} (h : RowRel φ r arr e fr sz) {o n : Nat} (hn : o + n ≤ r.cs.length) :
    VsRel φ (seg r.cs o n) ((arr.toList.drop o).take n) := by
  have := h.2.2.1.seg o n
  rw [List.drop_take, List.take_take, Nat.min_eq_left (by omega)] at this
  exact this
end Am
