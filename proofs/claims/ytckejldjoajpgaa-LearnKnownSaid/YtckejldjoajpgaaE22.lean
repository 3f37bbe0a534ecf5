/- A faster run of the shadow: one operation, out of its compiled form. Nothing of the program. -/
import Derived.Test.YtckejldjoajpgaaE21
namespace Go.Proofs.Ytckejldjoajpgaa
open Go
set_option linter.all false

/-- A list's place. -/
noncomputable def lget (l : List Value) : Nat → Option Value :=
  List.rec (motive := fun _ => Nat → Option Value) (fun _ => none) (fun a _ ih i => Nat.rec (motive := fun _ => Option Value) (some a) (fun j _ => ih j) i) l
theorem lget_eq : ∀ (l : List Value) (i : Nat), lget l i = l[i]?
  | [], _ => by simp [lget]
  | a :: l, 0 => rfl
  | a :: l, i + 1 => by
    show lget l i = _
    rw [lget_eq l i]; simp

/-- The first n behind o, if there are so many. -/
noncomputable def ltake (l : List Value) : Nat → Option (List Value) :=
  List.rec (motive := fun _ => Nat → Option (List Value)) (fun i => Nat.rec (motive := fun _ => Option (List Value)) (some []) (fun _ _ => none) i)
    (fun a _ ih i => Nat.rec (motive := fun _ => Option (List Value)) (some []) (fun j _ => Option.rec (motive := fun _ => Option (List Value)) none (fun r => some (a :: r)) (ih j)) i) l
noncomputable def lcut (l : List Value) : Nat → Nat → Option (List Value) :=
  List.rec (motive := fun _ => Nat → Nat → Option (List Value)) (fun o n => Nat.rec (motive := fun _ => Option (List Value)) (ltake [] n) (fun _ _ => none) o)
    (fun a t ih o n => Nat.rec (motive := fun _ => Option (List Value)) (ltake (a :: t) n) (fun j _ => ih j n) o) l

theorem ltake_eq : ∀ (l : List Value) (n : Nat) {r : List Value}, ltake l n = some r → n ≤ l.length ∧ r = l.take n
  | [], 0, r, h => by cases h; simp
  | [], n + 1, r, h => by cases h
  | a :: l, 0, r, h => by cases h; simp
  | a :: l, n + 1, r, h => by
    have h : Option.rec (motive := fun _ => Option (List Value)) none (fun r => some (a :: r)) (ltake l n) = some r := h
    cases hl : ltake l n with
    | none => rw [hl] at h; cases h
    | some q =>
      rw [hl] at h
      cases h
      obtain ⟨h1, h2⟩ := ltake_eq l n hl
      subst h2
      exact ⟨by simp; omega, by simp⟩
theorem lcut_eq : ∀ (l : List Value) (o n : Nat) {r : List Value}, lcut l o n = some r → o + n ≤ l.length ∧ r = (l.drop o).take n
  | [], 0, n, r, h => by
    obtain ⟨h1, h2⟩ := ltake_eq [] n h
    exact ⟨by omega, h2⟩
  | [], o + 1, n, r, h => by cases h
  | a :: l, 0, n, r, h => by
    obtain ⟨h1, h2⟩ := ltake_eq (a :: l) n h
    exact ⟨by omega, h2⟩
  | a :: l, o + 1, n, r, h => by
    obtain ⟨h1, h2⟩ := lcut_eq l o n h
    exact ⟨by simp; omega, by simp [h2]⟩

/-- Values laid over. -/
noncomputable def lover (vs : List Value) : List Value → Option (List Value) :=
  List.rec (motive := fun _ => List Value → Option (List Value)) (fun l => some l)
    (fun v _ ih l => List.rec (motive := fun _ => Option (List Value)) none (fun _ t _ => Option.rec (motive := fun _ => Option (List Value)) none (fun r => some (v :: r)) (ih t)) l) vs
noncomputable def lset (l : List Value) : Nat → List Value → Option (List Value) :=
  List.rec (motive := fun _ => Nat → List Value → Option (List Value)) (fun o vs => Nat.rec (motive := fun _ => Option (List Value)) (lover vs []) (fun _ _ => none) o)
    (fun a t ih o vs => Nat.rec (motive := fun _ => Option (List Value)) (lover vs (a :: t)) (fun j _ => Option.rec (motive := fun _ => Option (List Value)) none (fun r => some (a :: r)) (ih j vs)) o) l

theorem setL_cons (a : Value) : ∀ (vs : List Value) (l : List Value) (o : Nat), setL (a :: l) (o + 1) vs = a :: setL l o vs
  | [], _, _ => rfl
  | v :: vs, l, o => by simp only [setL, List.set_cons_succ]; exact setL_cons a vs _ _

theorem lover_eq : ∀ (vs l : List Value) {r : List Value}, lover vs l = some r → vs.length ≤ l.length ∧ r = setL l 0 vs
  | [], l, r, h => by cases h; exact ⟨by simp, rfl⟩
  | v :: vs, [], r, h => by cases h
  | v :: vs, a :: t, r, h => by
    have h : Option.rec (motive := fun _ => Option (List Value)) none (fun r => some (v :: r)) (lover vs t) = some r := h
    cases hl : lover vs t with
    | none => rw [hl] at h; cases h
    | some q =>
      rw [hl] at h
      cases h
      obtain ⟨h1, h2⟩ := lover_eq vs t hl
      subst h2
      refine ⟨by simp; omega, ?_⟩
      simp only [setL, List.set_cons_zero]
      exact (setL_cons v vs t 0).symm
theorem lset_eq : ∀ (l : List Value) (o : Nat) (vs : List Value) {r : List Value}, lset l o vs = some r → o + vs.length ≤ l.length ∧ r = setL l o vs
  | [], 0, vs, r, h => by
    obtain ⟨h1, h2⟩ := lover_eq vs [] h
    exact ⟨by omega, h2⟩
  | [], o + 1, vs, r, h => by cases h
  | a :: l, 0, vs, r, h => by
    obtain ⟨h1, h2⟩ := lover_eq vs (a :: l) h
    exact ⟨by omega, h2⟩
  | a :: l, o + 1, vs, r, h => by
    have h : Option.rec (motive := fun _ => Option (List Value)) none (fun r => some (a :: r)) (lset l o vs) = some r := h
    cases hl : lset l o vs with
    | none => rw [hl] at h; cases h
    | some q =>
      rw [hl] at h
      cases h
      obtain ⟨h1, h2⟩ := lset_eq l o vs hl
      subst h2
      exact ⟨by simp; omega, (setL_cons a vs l o).symm⟩

/-- Memory's place, faster. -/
noncomputable def hget {α : Type} (t : Tr α) : Nat → Option α :=
  Tr.rec (motive := fun _ => Nat → Option α) (fun _ => none) (fun v _ _ ihl ihr i => Nat.rec (motive := fun _ => Option α) v (fun j _ => Bool.rec (motive := fun _ => Option α) (ihr (j / 2)) (ihl (j / 2)) (Nat.beq (j % 2) 0)) i) t
theorem hget_eq {α : Type} : ∀ (t : Tr α) (i : Nat), hget t i = t.get i
  | .nil, _ => rfl
  | .node v l r, 0 => rfl
  | .node v l r, i + 1 => by
    show Bool.rec (motive := fun _ => Option α) (hget r (i / 2)) (hget l (i / 2)) (Nat.beq (i % 2) 0) = _
    rw [hget_eq l, hget_eq r]
    simp only [Tr.get]
    by_cases h : i % 2 = 0
    · rw [if_pos h, h]; rfl
    · rw [if_neg h]
      cases hb : Nat.beq (i % 2) 0 with
      | true => exact absurd (Nat.eq_of_beq_eq_true hb) h
      | false => rfl

noncomputable def hsetF {α : Type} (x : α) (f : Nat) : Tr α → Nat → Tr α :=
  Nat.rec (motive := fun _ => Tr α → Nat → Tr α) (fun t _ => t)
    (fun _ ih t i => Tr.rec (motive := fun _ => Tr α)
      (Nat.rec (motive := fun _ => Tr α) (.node (some x) .nil .nil) (fun j _ => Bool.rec (motive := fun _ => Tr α) (.node none .nil (ih .nil (j / 2))) (.node none (ih .nil (j / 2)) .nil) (Nat.beq (j % 2) 0)) i)
      (fun v l r _ _ => Nat.rec (motive := fun _ => Tr α) (.node (some x) l r) (fun j _ => Bool.rec (motive := fun _ => Tr α) (.node v l (ih r (j / 2))) (.node v (ih l (j / 2)) r) (Nat.beq (j % 2) 0)) i) t) f
theorem beq0 (i : Nat) : Nat.beq (i % 2) 0 = decide (i % 2 = 0) := by
  by_cases h : i % 2 = 0
  · rw [h]; rfl
  · cases hb : Nat.beq (i % 2) 0 with
    | true => exact absurd (Nat.eq_of_beq_eq_true hb) h
    | false => simp [h]
theorem hsetF_eq {α : Type} (x : α) : ∀ (f : Nat) (t : Tr α) (i : Nat), hsetF x f t i = Tr.setF f t i x
  | 0, t, i => rfl
  | f + 1, .nil, 0 => rfl
  | f + 1, .nil, i + 1 => by
    show Bool.rec (motive := fun _ => Tr α) (.node none .nil (hsetF x f .nil (i / 2))) (.node none (hsetF x f .nil (i / 2)) .nil) (Nat.beq (i % 2) 0) = _
    rw [hsetF_eq x f, beq0]
    simp only [Tr.setF]
    by_cases h : i % 2 = 0
    · rw [if_pos h, decide_eq_true h]
    · rw [if_neg h, decide_eq_false h]
  | f + 1, .node v l r, 0 => rfl
  | f + 1, .node v l r, i + 1 => by
    show Bool.rec (motive := fun _ => Tr α) (.node v l (hsetF x f r (i / 2))) (.node v (hsetF x f l (i / 2)) r) (Nat.beq (i % 2) 0) = _
    rw [hsetF_eq x f, hsetF_eq x f, beq0]
    simp only [Tr.setF]
    by_cases h : i % 2 = 0
    · rw [if_pos h, decide_eq_true h]
    · rw [if_neg h, decide_eq_false h]
/-- The fuel: any that is enough gives one and the same. -/
theorem setF_fuel {α : Type} (x : α) : ∀ (f g : Nat) (t : Tr α) (i : Nat), i < f → i < g → Tr.setF f t i x = Tr.setF g t i x
  | 0, _, _, _, h, _ => by omega
  | _, 0, _, _, _, h => by omega
  | f + 1, g + 1, .nil, 0, _, _ => rfl
  | f + 1, g + 1, .nil, i + 1, h, k => by
    simp only [Tr.setF]
    rw [setF_fuel x f g .nil (i / 2) (by omega) (by omega)]
  | f + 1, g + 1, .node v l r, 0, _, _ => rfl
  | f + 1, g + 1, .node v l r, i + 1, h, k => by
    simp only [Tr.setF]
    rw [setF_fuel x f g l (i / 2) (by omega) (by omega), setF_fuel x f g r (i / 2) (by omega) (by omega)]
noncomputable def hset {α : Type} (t : Tr α) (i : Nat) (x : α) : Tr α := hsetF x (i + 1) t i
theorem hset_eq {α : Type} (t : Tr α) (i : Nat) (x : α) : hset t i x = t.set i x := hsetF_eq x _ t i
end Go.Proofs.Ytckejldjoajpgaa
