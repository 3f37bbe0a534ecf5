/- A faster run of the shadow: places by their paths; one operation at a time, out of its compiled form. Nothing of the program. -/
import Derived.Test.YtckejldjoajpgaaE20
namespace Go.Proofs.Ytckejldjoajpgaa
open Go
set_option linter.all false

/-- The way to a place of a tree. -/
inductive Pa where
  | z
  | a (p : Pa)
  | b (p : Pa)

def Pa.idx : Pa → Nat
  | .z => 0
  | .a p => 2 * p.idx + 1
  | .b p => 2 * p.idx + 2

def paF : Nat → Nat → Pa
  | 0, _ => .z
  | f + 1, i => match i with
    | 0 => .z
    | i + 1 => if i % 2 = 0 then .a (paF f (i / 2)) else .b (paF f (i / 2))

noncomputable def Pa.get {α : Type} (p : Pa) : Tr α → Option α :=
  Pa.rec (motive := fun _ => Tr α → Option α) (fun t => Tr.rec (motive := fun _ => Option α) none (fun v _ _ _ _ => v) t)
    (fun _ ih t => Tr.rec (motive := fun _ => Option α) none (fun _ l _ _ _ => ih l) t)
    (fun _ ih t => Tr.rec (motive := fun _ => Option α) none (fun _ _ r _ _ => ih r) t) p

noncomputable def Pa.set {α : Type} (p : Pa) (x : α) : Tr α → Tr α :=
  Pa.rec (motive := fun _ => Tr α → Tr α) (fun t => Tr.rec (motive := fun _ => Tr α) (.node (some x) .nil .nil) (fun _ l r _ _ => .node (some x) l r) t)
    (fun _ ih t => Tr.rec (motive := fun _ => Tr α) (.node none (ih .nil) .nil) (fun v l r _ _ => .node v (ih l) r) t)
    (fun _ ih t => Tr.rec (motive := fun _ => Tr α) (.node none .nil (ih .nil)) (fun v l r _ _ => .node v l (ih r)) t) p

theorem Pa.get_idx {α : Type} : ∀ (p : Pa) (t : Tr α), p.get t = t.get p.idx
  | .z, t => by cases t <;> rfl
  | .a p, t => by
    cases t with
    | nil => rfl
    | node v l r =>
      show p.get l = _
      rw [Pa.get_idx p l]
      simp only [Pa.idx, Tr.get]
      rw [if_pos (by omega), show 2 * p.idx / 2 = p.idx by omega]
  | .b p, t => by
    cases t with
    | nil => rfl
    | node v l r =>
      show p.get r = _
      rw [Pa.get_idx p r]
      simp only [Pa.idx, Tr.get]
      rw [if_neg (by omega), show (2 * p.idx + 1) / 2 = p.idx by omega]

theorem Pa.get_set {α : Type} (x : α) : ∀ (p : Pa) (t : Tr α) (j : Nat), (p.set x t).get j = if j = p.idx then some x else t.get j
  | .z, t, j => by
    cases t <;> cases j <;> simp [Pa.set, Pa.idx, Tr.get]
  | .a p, t, j => by
    have ih := Pa.get_set x p
    cases t with
    | nil =>
      show (Tr.node none (p.set x .nil) .nil).get j = _
      cases j with
      | zero => simp [Tr.get, Pa.idx]
      | succ j =>
        rw [show (Pa.a p).idx = 2 * p.idx + 1 from rfl]
        simp only [Tr.get]
        by_cases h : j % 2 = 0
        · rw [if_pos h, ih]
          by_cases e : j / 2 = p.idx
          · rw [if_pos e, if_pos (by omega)]
          · rw [if_neg e, if_neg (by omega)]; rfl
        · rw [if_neg h, if_neg (by omega)]
    | node v l r =>
      show (Tr.node v (p.set x l) r).get j = _
      cases j with
      | zero => simp [Tr.get, Pa.idx]
      | succ j =>
        rw [show (Pa.a p).idx = 2 * p.idx + 1 from rfl]
        simp only [Tr.get]
        by_cases h : j % 2 = 0
        · rw [if_pos h, if_pos h, ih]
          by_cases e : j / 2 = p.idx
          · rw [if_pos e, if_pos (by omega)]
          · rw [if_neg e, if_neg (by omega)]
        · rw [if_neg h, if_neg h, if_neg (by omega)]
  | .b p, t, j => by
    have ih := Pa.get_set x p
    cases t with
    | nil =>
      show (Tr.node none .nil (p.set x .nil)).get j = _
      cases j with
      | zero => simp [Tr.get, Pa.idx]
      | succ j =>
        rw [show (Pa.b p).idx = 2 * p.idx + 2 from rfl]
        simp only [Tr.get]
        by_cases h : j % 2 = 0
        · rw [if_pos h, if_neg (by omega)]
        · rw [if_neg h, ih]
          by_cases e : j / 2 = p.idx
          · rw [if_pos e, if_pos (by omega)]
          · rw [if_neg e, if_neg (by omega)]; rfl
    | node v l r =>
      show (Tr.node v l (p.set x r)).get j = _
      cases j with
      | zero => simp [Tr.get, Pa.idx]
      | succ j =>
        rw [show (Pa.b p).idx = 2 * p.idx + 2 from rfl]
        simp only [Tr.get]
        by_cases h : j % 2 = 0
        · rw [if_pos h, if_pos h, if_neg (by omega)]
        · rw [if_neg h, if_neg h, ih]
          by_cases e : j / 2 = p.idx
          · rw [if_pos e, if_pos (by omega)]
          · rw [if_neg e, if_neg (by omega)]

/-- A frame as a tree. -/
def TL (n : Nat) (ts : List Value) (t : Tr Value) : Prop := ts.length = n ∧ ∀ i, t.get i = ts[i]?

def ofL : List Value → Nat → Tr Value → Tr Value
  | [], _, t => t
  | v :: r, i, t => ofL r (i + 1) (t.set i v)
def toL (t : Tr Value) : Nat → Nat → List Value
  | 0, _ => []
  | k + 1, i => ((t.get i).getD undef) :: toL t k (i + 1)

theorem ofL_get : ∀ (l : List Value) (i : Nat) (t : Tr Value) (j : Nat), (ofL l i t).get j = if i ≤ j ∧ j < i + l.length then l[j - i]? else t.get j
  | [], i, t, j => by simp only [ofL, List.length_nil, Nat.add_zero]; rw [if_neg (by omega)]
  | v :: r, i, t, j => by
    simp only [ofL]
    rw [ofL_get r (i + 1) _ j, Tr.get_set]
    simp only [List.length_cons]
    by_cases h : j = i
    · subst h
      rw [if_neg (by omega), if_pos rfl, if_pos (by omega)]
      simp
    · by_cases h2 : i + 1 ≤ j ∧ j < i + 1 + r.length
      · rw [if_pos h2, if_pos (by omega)]
        obtain ⟨k, rfl⟩ : ∃ k, j = i + 1 + k := ⟨j - (i + 1), by omega⟩
        rw [show i + 1 + k - (i + 1) = k by omega, show i + 1 + k - i = k + 1 by omega, List.getElem?_cons_succ]
      · rw [if_neg h2, if_neg h, if_neg (by omega)]

theorem TL.of (l : List Value) : TL l.length l (ofL l 0 .nil) := ⟨rfl, fun i => by
  rw [ofL_get]
  simp only [Nat.zero_le, true_and, Nat.zero_add, Nat.sub_zero]
  split
  · rfl
  · rename_i h
    rw [List.getElem?_eq_none (by omega)]; rfl⟩

theorem toL_get (t : Tr Value) : ∀ (k i j : Nat), j < k → (toL t k i)[j]? = some ((t.get (i + j)).getD undef)
  | 0, _, _, h => by omega
  | k + 1, i, 0, _ => by simp [toL]
  | k + 1, i, j + 1, h => by
    simp only [toL, List.getElem?_cons_succ]
    rw [toL_get t k (i + 1) j (by omega), show i + 1 + j = i + (j + 1) by omega]
theorem toL_length (t : Tr Value) : ∀ (k i : Nat), (toL t k i).length = k
  | 0, _ => rfl
  | k + 1, i => by simp [toL, toL_length t k]

theorem TL.toL {n : Nat} {ts : List Value} {t : Tr Value} (h : TL n ts t) : toL t n 0 = ts := by
  apply List.ext_getElem?
  intro i
  by_cases hi : i < n
  · rw [toL_get t n 0 i hi, Nat.zero_add, h.2 i]
    have : i < ts.length := by rw [h.1]; exact hi
    simp [this]
  · rw [List.getElem?_eq_none (by rw [toL_length]; omega), List.getElem?_eq_none (by rw [h.1]; omega)]

theorem TL.set {n : Nat} {ts : List Value} {t : Tr Value} (h : TL n ts t) {p : Pa} (hp : p.idx < n) (v : Value) : TL n (ts.set p.idx v) (p.set v t) :=
  ⟨by rw [List.length_set]; exact h.1, fun i => by
    rw [Pa.get_set, List.getElem?_set]
    by_cases e : i = p.idx
    · subst e
      rw [if_pos rfl, if_pos rfl, if_pos (by rw [h.1]; exact hp)]
    · rw [if_neg e, if_neg (Ne.symm e)]; exact h.2 i⟩

/-- An operand. -/
inductive CX where
  | t (p : Pa)
  | k (v : Value)

noncomputable def CX.get (c : CX) (t : Tr Value) : Option Value := CX.rec (motive := fun _ => Option Value) (fun p => p.get t) (fun v => some v) c

def cx : Operand → Option CX
  | .tmp i => if (paF 12 i).idx = i then some (.t (paF 12 i)) else none
  | .const v => if closed 4 v then some (.k v) else none
  | .func f => some (.k (.func (.func f) #[] #[]))
  | .global _ => none

theorem cx_ok {n : Nat} {ts : List Value} {t : Tr Value} (h : TL n ts t) {x : Operand} {c : CX} (hc : cx x = some c) {v : Value} (hv : c.get t = some v) : opnd ts x = some v := by
  cases x with
  | tmp i =>
    simp only [cx] at hc
    split at hc
    case isFalse => cases hc
    rename_i hi
    cases hc
    have : (paF 12 i).get t = some v := hv
    rw [Pa.get_idx, hi, h.2 i] at this
    exact this
  | const u =>
    simp only [cx] at hc
    split at hc
    case isFalse => cases hc
    rename_i hcl
    cases hc
    have : some u = some v := hv
    cases this
    simp only [opnd, if_pos hcl]
  | func f =>
    cases hc
    exact hv
  | global k => cases hc

/-- All operands. -/
def cxs : List Operand → Option (List CX)
  | [] => some []
  | x :: r => match cx x, cxs r with
    | some c, some cs => some (c :: cs)
    | _, _ => none
noncomputable def getAll (t : Tr Value) (l : List CX) : Option (List Value) :=
  List.rec (motive := fun _ => Option (List Value)) (some []) (fun c _ ih => Option.rec (motive := fun _ => Option (List Value)) none (fun v => Option.rec (motive := fun _ => Option (List Value)) none (fun vs => some (v :: vs)) ih) (c.get t)) l

theorem getAll_cons (t : Tr Value) (c : CX) (l : List CX) : getAll t (c :: l) = (match c.get t, getAll t l with | some v, some vs => some (v :: vs) | _, _ => none) := by
  show Option.rec (motive := fun _ => Option (List Value)) none (fun v => Option.rec (motive := fun _ => Option (List Value)) none (fun vs => some (v :: vs)) (getAll t l)) (c.get t) = _
  cases c.get t <;> cases getAll t l <;> rfl

theorem sv_of {ts : List Value} {x : Operand} {v : Value} (h : opnd ts x = some v) : sv ts x = v := by simp [sv, h]

theorem cxs_ok {n : Nat} {ts : List Value} {t : Tr Value} (h : TL n ts t) : ∀ {l : List Operand} {cs : List CX}, cxs l = some cs → ∀ {vs : List Value}, getAll t cs = some vs → (∀ x ∈ l, (opnd ts x).isSome = true) ∧ l.map (sv ts) = vs
  | [], cs, hc, vs, hv => by cases hc; cases hv; exact ⟨fun x hx => (by cases hx), rfl⟩
  | x :: r, cs, hc, vs, hv => by
    simp only [cxs] at hc
    split at hc
    case h_2 => cases hc
    rename_i c cs1 h1 h2
    cases hc
    rw [getAll_cons] at hv
    split at hv
    case h_2 => cases hv
    rename_i v vs1 h3 h4
    cases hv
    obtain ⟨i1, i2⟩ := cxs_ok h h2 h4
    have hx := cx_ok h h1 h3
    refine ⟨fun z hz => ?_, ?_⟩
    · rcases List.mem_cons.1 hz with rfl | hz
      · rw [hx]; rfl
      · exact i1 z hz
    · simp only [List.map_cons, i2, sv_of hx]
end Go.Proofs.Ytckejldjoajpgaa
