/- A run that answers is a run that holds. -/
import Derived.Test.YtbmfehgkbgdajaaGreatDoorAmFree
set_option linter.all false
namespace Am
open Go (FuncId)

abbrev CallO (α : Type) := Tgt → List Val → (Res → St → Option α) → St → Option α

/-- what the one answers, the other holds -/
def OpC {α : Type} (c : CallO α) (c' : CallT) : Prop := ∀ t a (K : Res → St → Option α) (K' : Res → St → Prop) s (x : α), (∀ r s, K r s = some x → K' r s) → c t a K s = some x → c' t a K' s

section
variable {α : Type} {c : CallO α} {c' : CallT} (hc : OpC c c') {x : α}
include hc

omit hc in
theorem upon_op {X Y : Val → St → Option α} {X' Y' : Val → St → Prop} (hX : ∀ v s, X v s = some x → X' v s) (hY : ∀ v s, Y v s = some x → Y' v s) : ∀ r s, upon X Y r s = some x → upon X' Y' r s
  | .ret v, s, h => hY v s h
  | .pan v, s, h => hX v s h

theorem denOne_op {o : AOper} {E : Env} {X Y : Val → St → Option α} {X' Y' : Val → St → Prop} {N : Option α} {N' : Prop} {s : St} (hX : ∀ v s, X v s = some x → X' v s) (hY : ∀ v s, Y v s = some x → Y' v s) (hN : N = some x → N')
    (h : denOne c o E X Y N s = some x) : denOne c' o E X' Y' N' s := by
  cases o with
  | op d g o k =>
    simp only [denOne] at h ⊢
    split at h
    · split at h
      · exact hY _ _ h
      · cases h
    · exact hN h
    · cases h
  | call d g f l k =>
    simp only [denOne] at h ⊢
    split at h
    · exact hc _ _ _ _ _ _ (upon_op hX hY) h
    · exact hN h
    · cases h
  | callv d g f l k =>
    simp only [denOne] at h ⊢
    split at h
    · split at h
      · exact hc _ _ _ _ _ _ (upon_op hX hY) h
      · exact hc _ _ _ _ _ _ (upon_op hX hY) h
      · cases h
    · exact hN h
    · cases h
  | pan d g y =>
    simp only [denOne] at h ⊢
    split at h
    · split at h
      · exact hX _ _ h
      · cases h
    · exact hN h
    · cases h
  | dfr d g f l => cases h
  | nextMap d g y => cases h

omit hc in
theorem goOn_op {k : Chk} {E : Env} {K : Env → St → Option α} {K' : Env → St → Prop} {s : St} (hK : ∀ E s, K E s = some x → K' E s) (h : goOn k E s K = some x) : goOn k E s K' := by
  unfold goOn at h ⊢
  split at h
  · exact hK _ _ h
  · split at h
    · rw [if_pos (by assumption)]; exact hK _ _ h
    · cases h

omit hc in
theorem denNext_op {E : Env} {y : AOpd} {K : Val → St → Option α} {K' : Val → St → Prop} {s : St} (hK : ∀ v s, K v s = some x → K' v s) (h : denNext E y K s = some x) : denNext E y K' s := by
  unfold denNext at h ⊢
  split at h
  case h_2 => cases h
  split at h
  · exact hK _ _ h
  · split at h
    case h_2 => cases h
    split at h
    · cases h
    split at h
    case isFalse => cases h
    rename_i h1 h2
    rw [if_neg h1, if_pos h2]
    have h : (if (mapCands _ _ _).length = 1 then _ else _) = some x := h
    split at h
    case isFalse => cases h
    rename_i h3
    intro i hi
    rw [h3] at hi
    obtain rfl : i = 0 := by omega
    dsimp only at h ⊢
    split at h
    · exact hK _ _ h
    · exact hK _ _ h
    · cases h
  · cases h

theorem denOps_op : ∀ {l : List AOper} {E : Env} {X : Val → Env → St → Option α} {X' : Val → Env → St → Prop} {K : Env → St → Option α} {K' : Env → St → Prop} {s : St}, (∀ v E s, X v E s = some x → X' v E s) → (∀ E s, K E s = some x → K' E s) →
    denOps c l E X K s = some x → denOps c' l E X' K' s
  | [], E, X, X', K, K', s, _, hK, h => hK _ _ h
  | .op d g o k :: l, E, X, X', K, K', s, hX, hK, h =>
    denOne_op hc (fun v s => hX v E s) (fun v s => goOn_op fun E s => denOps_op hX hK) (denOps_op hX hK) h
  | .call d g f as k :: l, E, X, X', K, K', s, hX, hK, h =>
    denOne_op hc (fun v s => hX v E s) (fun v s => goOn_op fun E s => denOps_op hX hK) (denOps_op hX hK) h
  | .callv d g f as k :: l, E, X, X', K, K', s, hX, hK, h =>
    denOne_op hc (fun v s => hX v E s) (fun v s => goOn_op fun E s => denOps_op hX hK) (denOps_op hX hK) h
  | .pan d g y :: l, E, X, X', K, K', s, hX, hK, h =>
    denOne_op hc (fun v s => hX v E s) (fun v s => goOn_op fun E s => denOps_op hX hK) (denOps_op hX hK) h
  | .dfr d g f as :: l, E, X, X', K, K', s, hX, hK, h => by
    simp only [denOps] at h ⊢
    split at h
    · split at h
      · exact denOps_op hX hK h
      · cases h
    · exact denOps_op hX hK h
    · cases h
  | .nextMap d g y :: l, E, X, X', K, K', s, hX, hK, h => by
    simp only [denOps] at h ⊢
    split at h
    · exact denNext_op (fun v s => denOps_op hX hK) h
    · exact denOps_op hX hK h
    · cases h

omit hc in
theorem loopN_op {B : Env → (Ex → Env → St → Option α) → St → Option α} {B' : Env → (Ex → Env → St → Prop) → St → Prop} (hB : ∀ E Q Q' s, (∀ e E s, Q e E s = some x → Q' e E s) → B E Q s = some x → B' E Q' s) :
    ∀ {i : Nat} {E : Env} {Q : Ex → Env → St → Option α} {Q' : Ex → Env → St → Prop} {s : St}, (∀ e E s, Q e E s = some x → Q' e E s) → loopN B i E Q s = some x → loopN B' i E Q' s
  | 0, _, _, _, _, _, h => by cases h
  | i + 1, E, Q, Q', s, hQ, h => by
    simp only [loopN] at h ⊢
    refine hB _ _ _ _ ?_ h
    intro e E s h
    cases e with
    | normal => exact loopN_op hB hQ h
    | exit i => exact hQ _ _ _ h
    | ret => exact hQ _ _ _ h
    | panic v => exact hQ _ _ _ h

omit hc in
theorem afterLoop_op {Q : Ex → Env → St → Option α} {Q' : Ex → Env → St → Prop} {E : Env} {l : Nat} {s : St} (hQ : ∀ e E s, Q e E s = some x → Q' e E s) (h : afterLoop Q E l s = some x) : afterLoop Q' E l s := by
  unfold afterLoop at h ⊢
  split at h
  · split at h
    · cases h
    · rename_i h1
      rw [if_neg h1]
      split at h <;> exact hQ _ _ _ h
  · cases h

theorem den_op {n : Nat} : ∀ {a : ACode} {E : Env} {Q : Ex → Env → St → Option α} {Q' : Ex → Env → St → Prop} {s : St}, (∀ e E s, Q e E s = some x → Q' e E s) →
    den c n a E Q s = some x → den c' n a E Q' s
  | .skip, _, _, _, _, hQ, h => hQ _ _ _ h
  | .ops m l, _, _, _, _, hQ, h => denOps_op hc (fun _ _ _ => hQ _ _ _) (fun _ _ => hQ _ _ _) h
  | .seq a b, E, Q, Q', s, hQ, h => by
    simp only [den] at h ⊢
    refine den_op ?_ h
    intro e E s h
    cases e with
    | normal => exact den_op hQ h
    | exit i => exact hQ _ _ _ h
    | ret => exact hQ _ _ _ h
    | panic v => exact hQ _ _ _ h
  | .cond y a b, E, Q, Q', s, hQ, h => by
    simp only [den] at h ⊢
    split at h
    · exact den_op hQ h
    · exact den_op hQ h
    · cases h
  | .block id a, E, Q, Q', s, hQ, h => by
    simp only [den] at h ⊢
    refine den_op ?_ h
    intro e E s h
    cases e with
    | normal => exact hQ _ _ _ h
    | exit i =>
      have h : (if i = id then Q .normal E s else Q (.exit i) E s) = some x := h
      show (if i = id then Q' .normal E s else Q' (.exit i) E s)
      split at h
      · rw [if_pos (by assumption)]; exact hQ _ _ _ h
      · rw [if_neg (by assumption)]; exact hQ _ _ _ h
    | ret => exact hQ _ _ _ h
    | panic v => exact hQ _ _ _ h
  | .loop a, E, Q, Q', s, hQ, h => by
    simp only [den] at h ⊢
    exact loopN_op (B := fun E Q s => den c n a E Q s) (B' := fun E Q s => den c' n a E Q s) (fun E Q Q' s hQ h => den_op hQ h) hQ h
  | .exit id, _, _, _, _, hQ, h => hQ _ _ _ h
  | .ret, _, _, _, _, hQ, h => hQ _ _ _ h
  | .rangeFunc g ps as body, E, Q, Q', s, hQ, h => by
    simp only [den] at h ⊢
    split at h
    · refine hc _ _ _ _ _ _ ?_ h
      intro r s h
      cases r with
      | ret v => exact afterLoop_op hQ h
      | pan v => exact hQ _ _ _ h
    · cases h
  | .drop l, _, _, _, _, hQ, h => hQ _ _ _ h
  | .fail, _, _, _, _, _, h => by cases h

theorem leave_op {res : List ARes} {E : Env} {K : Res → St → Option α} {K' : Res → St → Prop} (hK : ∀ r s, K r s = some x → K' r s) : ∀ {ds : List ADef} {p : Option Val} {s : St}, leave c res E K ds p s = some x → leave c' res E K' ds p s
  | [], some v, s, h => hK _ _ h
  | [], none, s, h => by
    simp only [leave] at h ⊢
    split at h
    · exact hK _ _ h
    · cases h
  | .coll d :: r, p, s, h => by
    simp only [leave] at h ⊢
    split at h
    · split at h
      · rw [if_pos (by assumption)]; exact leave_op hK h
      · cases h
    · cases h
  | .fn f args :: r, p, s, h => by
    simp only [leave] at h ⊢
    refine hc _ _ _ _ _ _ ?_ h
    intro e s h
    split at h
    · exact leave_op hK h
    · cases h
end

theorem endRound_op {α : Type} {x : α} {K : Res → St → Option α} {K' : Res → St → Prop} (hK : ∀ r s, K r s = some x → K' r s) {l : Nat} {e : Ex} {s : St} (h : endRound K l e s = some x) : endRound K' l e s := by
  unfold endRound at h ⊢
  split at h
  · cases h
  · split at h
    · split at h
      · rw [if_pos (by assumption)]; split at h <;> exact hK _ _ h
      · cases h
    · cases h

theorem beginRound_op {α : Type} {x : α} {K : St → Option α} {K' : St → Prop} (hK : ∀ s, K s = some x → K' s) {l : Nat} {s : St} (h : beginRound K l s = some x) : beginRound K' l s := by
  unfold beginRound at h ⊢
  split at h
  · split at h
    · rw [if_pos (by assumption)]; exact hK _ h
    · cases h
  · cases h

/-- A RUN THAT ANSWERS IS A RUN THAT HOLDS. -/
theorem callN_op {α : Type} (fns : FuncId → Option AFunc) : ∀ n, OpC (callN (ρ := Option α) fns n) (callN (ρ := Prop) fns n)
  | 0 => fun _ _ _ _ _ _ _ h => by cases h
  | n + 1 => by
    have ih := callN_op (α := α) fns n
    intro t a K K' s x hK h
    cases t with
    | fn f =>
      simp only [callN] at h ⊢
      split at h
      case h_2 => cases h
      split at h
      · split at h
        · exact hK _ _ h
        · cases h
      split at h
      case isFalse => cases h
      rw [if_pos (by assumption)]
      refine den_op ih ?_ h
      intro e E s h
      cases e with
      | normal => exact leave_op ih hK h
      | exit i => cases h
      | ret => exact leave_op ih hK h
      | panic v =>
        cases v with
        | iface t x => exact leave_op ih hK h
        | _ => cases h
    | dfn f p =>
      simp only [callN] at h ⊢
      split at h
      case h_2 => cases h
      split at h
      case isFalse => cases h
      rw [if_pos (by assumption)]
      refine den_op ih ?_ h
      intro e E s h
      have fin : ∀ {fn : AFunc}, (match E.ds, resVals E s fn.res with
            | [], some _ => K (.ret (.bool fn.rcv.isSome)) s
            | _, _ => Ans.fail) = some x → (match E.ds, resVals E s fn.res with
            | [], some _ => K' (.ret (.bool fn.rcv.isSome)) s
            | _, _ => Ans.fail) := by
        intro fn h
        split at h
        · exact hK _ _ h
        · cases h
      cases e with
      | normal => exact fin h
      | exit i => cases h
      | ret => exact fin h
      | panic v => cases h
    | yld l =>
      simp only [callN] at h ⊢
      split at h
      case h_2 => cases h
      split at h
      case isFalse => cases h
      rw [if_pos (by assumption)]
      refine den_op ih ?_ h
      intro e E s h
      cases e with
      | normal => exact beginRound_op (fun s h => den_op ih (fun e _ s h => endRound_op hK h) h) h
      | exit i => cases h
      | ret => cases h
      | panic v => cases h
end Am
