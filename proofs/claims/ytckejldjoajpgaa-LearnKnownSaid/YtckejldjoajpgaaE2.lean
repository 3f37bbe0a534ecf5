/- The shadow's memory, and what it says of a world. Nothing of the program. -/
import Derived.Test.YtckejldjoajpgaaE1
namespace Go.Proofs.Ytckejldjoajpgaa
open Go

/-- A tree of numbered places. -/
inductive Tr (α : Type) where
  | nil
  | node (v : Option α) (l r : Tr α)

def Tr.get {α : Type} : Tr α → Nat → Option α
  | .nil, _ => none
  | .node v l r, i => match i with
    | 0 => v
    | i + 1 => if i % 2 = 0 then l.get (i / 2) else r.get (i / 2)

def Tr.setF {α : Type} : Nat → Tr α → Nat → α → Tr α
  | 0, t, _, _ => t
  | f + 1, t, i, x => match t, i with
    | .nil, 0 => .node (some x) .nil .nil
    | .nil, i + 1 => if i % 2 = 0 then .node none (setF f .nil (i / 2) x) .nil else .node none .nil (setF f .nil (i / 2) x)
    | .node _ l r, 0 => .node (some x) l r
    | .node v l r, i + 1 => if i % 2 = 0 then .node v (setF f l (i / 2) x) r else .node v l (setF f r (i / 2) x)
def Tr.set {α : Type} (t : Tr α) (i : Nat) (x : α) : Tr α := Tr.setF (i + 1) t i x

theorem Tr.get_setF {α : Type} (x : α) : ∀ (f : Nat) (t : Tr α) (i j : Nat), i < f → (Tr.setF f t i x).get j = if j = i then some x else t.get j := by
  intro f
  induction f with
  | zero => intro t i j h; omega
  | succ f ih =>
    intro t i j h
    cases t with
    | nil =>
      cases i with
      | zero =>
        cases j with
        | zero => rfl
        | succ j => simp [Tr.setF, Tr.get]
      | succ i =>
        cases j with
        | zero => simp only [Tr.setF]; split <;> simp [Tr.get]
        | succ j =>
          simp only [Tr.setF]
          by_cases h1 : i % 2 = 0
          · rw [if_pos h1]
            simp only [Tr.get]
            by_cases h2 : j % 2 = 0
            · rw [if_pos h2, ih _ _ _ (by omega)]
              by_cases e : j / 2 = i / 2
              · rw [if_pos e, if_pos (by omega)]
              · rw [if_neg e, if_neg (by omega)]; rfl
            · rw [if_neg h2, if_neg (by omega)]
          · rw [if_neg h1]
            simp only [Tr.get]
            by_cases h2 : j % 2 = 0
            · rw [if_pos h2, if_neg (by omega)]
            · rw [if_neg h2, ih _ _ _ (by omega)]
              by_cases e : j / 2 = i / 2
              · rw [if_pos e, if_pos (by omega)]
              · rw [if_neg e, if_neg (by omega)]; rfl
    | node v l r =>
      cases i with
      | zero =>
        cases j with
        | zero => rfl
        | succ j => simp [Tr.setF, Tr.get]
      | succ i =>
        cases j with
        | zero => simp only [Tr.setF]; split <;> simp [Tr.get]
        | succ j =>
          simp only [Tr.setF]
          by_cases h1 : i % 2 = 0
          · rw [if_pos h1]
            simp only [Tr.get]
            by_cases h2 : j % 2 = 0
            · rw [if_pos h2, if_pos h2, ih _ _ _ (by omega)]
              by_cases e : j / 2 = i / 2
              · rw [if_pos e, if_pos (by omega)]
              · rw [if_neg e, if_neg (by omega)]
            · rw [if_neg h2, if_neg h2, if_neg (by omega)]
          · rw [if_neg h1]
            simp only [Tr.get]
            by_cases h2 : j % 2 = 0
            · rw [if_pos h2, if_pos h2, if_neg (by omega)]
            · rw [if_neg h2, if_neg h2, ih _ _ _ (by omega)]
              by_cases e : j / 2 = i / 2
              · rw [if_pos e, if_pos (by omega)]
              · rw [if_neg e, if_neg (by omega)]
theorem Tr.get_set {α : Type} (t : Tr α) (i : Nat) (x : α) (j : Nat) : (t.set i x).get j = if j = i then some x else t.get j := Tr.get_setF x _ t i j (by omega)

/-- What stands behind a name. -/
inductive SO where
  | cells (c : List Value) (t : TypeId)
  | row (c : List Value) (t : TypeId) (sz : Nat)
  | map (es : List MapEntry) (clock : Nat)
  | siter (s : ByteArray) (pos : Nat)
  | miter (m : Nat) (since : Nat) (seen : Array Nat) (stepped : Nat)
  | dead

def SO.alive : SO → Bool
  | .dead => false
  | _ => true

abbrev SH := Tr SO

def Thaw (n : Nat) (fr : Nat × Nat) : Prop := ∀ i, i < n → ¬ (fr.1 ≤ i ∧ i < fr.2)

def ER (g : Gm) (e e' : MapEntry) : Prop := e.key = e'.key ∧ e.born = e'.born ∧ closed 4 e.key = true ∧ VR g e.val e'.val

/-- What the world has in the place of a shadow's object. -/
def OR (g : Gm) (o : SO) (x : Nm) (ob : Option Obj) : Prop := match o with
  | .cells c t => ∃ cs fr, ob = some (.cells cs t fr) ∧ LR g c cs.toList ∧ Thaw cs.size fr
  | .row c t sz => ∃ cs fr, ob = some (.cells cs t fr) ∧ LR g c (cs.toList.take c.length) ∧ Thaw cs.size fr ∧ 0 < sz ∧ x.sz = sz ∧ cs.size = x.n * sz
  | .map es clock => ∃ es', ob = some (.map es' clock) ∧ L2 (ER g) es es'.toList
  | .siter s p => ob = some (.stringIter s p)
  | .miter m since seen st => ∃ y, g m = some y ∧ ob = some (.mapIter (some y.b) since seen st)
  | .dead => True

theorem OR.mono {g h : Gm} (le : g.le h) {o : SO} {x : Nm} {ob : Option Obj} (a : OR g o x ob) : OR h o x ob := by
  cases o with
  | cells c t => obtain ⟨cs, fr, a, b, c⟩ := a; exact ⟨cs, fr, a, b.mono le, c⟩
  | row c t sz => obtain ⟨cs, fr, a, b, c⟩ := a; exact ⟨cs, fr, a, b.mono le, c⟩
  | map es c => obtain ⟨es', a, b⟩ := a; exact ⟨es', a, b.mono fun _ _ h => ⟨h.1, h.2.1, h.2.2.1, h.2.2.2.mono le⟩⟩
  | siter s p => exact a
  | miter m s se st => obtain ⟨y, a, b⟩ := a; exact ⟨y, le _ _ a, b⟩
  | dead => trivial

theorem OR.some {g : Gm} {o : SO} {x : Nm} {ob : Option Obj} (h : OR g o x ob) (al : o.alive = true) : ∃ y, ob = some y := by
  cases o with
  | cells c t => obtain ⟨cs, fr, a, _⟩ := h; exact ⟨_, a⟩
  | row c t sz => obtain ⟨cs, fr, a, _⟩ := h; exact ⟨_, a⟩
  | map es c => obtain ⟨es', a, _⟩ := h; exact ⟨_, a⟩
  | siter s p => exact ⟨_, h⟩
  | miter m s se st => obtain ⟨y, _, b⟩ := h; exact ⟨_, b⟩
  | dead => cases al

structure Sim (w0 : World) (g : Gm) (S : SH) (w : World) : Prop where
  kn : Kn w0 w
  base : ∀ r x, g r = some x → w0.heap.size ≤ x.b
  live : ∀ r o, S.get r = some o → ∃ x, g r = some x ∧ OR g o x w.heap[x.b]?
  dom : ∀ r x, g r = some x → ∃ o, S.get r = some o
  inj : ∀ r r' o o' x x', S.get r = some o → o.alive = true → S.get r' = some o' → o'.alive = true → g r = some x → g r' = some x' → x.b = x'.b → r = r'

section
variable {w0 w w' : World} {g : Gm} {S : SH}

theorem Sim.empty (w : World) : Sim w (fun _ => none) .nil w :=
  ⟨Kp.refl _ w, fun _ _ h => (nomatch h), fun _ _ h => (nomatch h), fun _ _ h => (nomatch h), fun _ _ _ _ _ _ h => (nomatch h)⟩

theorem Sim.lt (h : Sim w0 g S w) {r : Nat} {o : SO} {x : Nm} (hr : S.get r = some o) (al : o.alive = true) (hx : g r = some x) : x.b < w.heap.size := by
  obtain ⟨y, hy, ho⟩ := h.live r o hr
  rw [hx] at hy; cases hy
  obtain ⟨ob, e⟩ := ho.some al
  exact block_lt e

/-- Nothing that stood has turned. -/
theorem Sim.kept (h : Sim w0 g S w) (k : Kn w w') : Sim w0 g S w' where
  kn := h.kn.then k
  base := h.base
  live r o hr := by
    obtain ⟨x, hx, ho⟩ := h.live r o hr
    refine ⟨x, hx, ?_⟩
    by_cases al : o.alive = true
    · rw [k.block _ (h.lt hr al hx) id]; exact ho
    · cases o <;> first | exact absurd rfl al | trivial
  dom := h.dom
  inj := h.inj

theorem Sim.drew (h : Sim w0 g S w) : Sim w0 g S w.drew := h.kept (Kp.refl _ w).drew

/-- One more name, for a new block. -/
def Gm.put (g : Gm) (r : Nat) (x : Nm) : Gm := fun k => if k = r then some x else g k
theorem Gm.le_put {g : Gm} {r : Nat} (x : Nm) (h : g r = none) : g.le (g.put r x) := fun k y e => by
  unfold Gm.put; split
  · rename_i e'; subst e'; rw [h] at e; cases e
  · exact e
theorem Gm.put_self (g : Gm) (r : Nat) (x : Nm) : g.put r x r = some x := by simp [Gm.put]

theorem Sim.none_of (h : Sim w0 g S w) {r : Nat} (hr : S.get r = none) : g r = none := by
  cases e : g r with
  | none => rfl
  | some x => obtain ⟨o, ho⟩ := h.dom r x e; rw [hr] at ho; cases ho

theorem Sim.new (h : Sim w0 g S w) (k : Kn w w') {r : Nat} (hr : S.get r = none) {x : Nm} (hx : w.heap.size ≤ x.b) {o : SO} (ho : OR (g.put r x) o x w'.heap[x.b]?) : Sim w0 (g.put r x) (S.set r o) w' where
  kn := h.kn.then k
  base r' y e := by
    unfold Gm.put at e; split at e
    · cases e; exact Nat.le_trans h.kn.size hx
    · exact h.base r' y e
  live r' o' e := by
    rw [Tr.get_set] at e
    split at e
    · rename_i e1; subst e1; cases e; exact ⟨x, g.put_self _ _, ho⟩
    · rename_i e1
      obtain ⟨y, hy, hoy⟩ := (h.kept k).live r' o' e
      exact ⟨y, Gm.le_put x (h.none_of hr) _ _ hy, hoy.mono (Gm.le_put x (h.none_of hr))⟩
  dom r' y e := by
    rw [Tr.get_set]
    unfold Gm.put at e; split at e
    · rename_i e1; rw [if_pos e1]; exact ⟨_, rfl⟩
    · rename_i e1; rw [if_neg e1]; exact h.dom r' y e
  inj a b oa ob xa xb ha la hb lb ga gb e := by
    rw [Tr.get_set] at ha hb
    unfold Gm.put at ga gb
    by_cases e1 : a = r
    · by_cases e2 : b = r
      · rw [e1, e2]
      · rw [if_neg e2] at hb gb
        rw [if_pos e1] at ga
        cases ga
        have := h.lt hb lb gb
        omega
    · rw [if_neg e1] at ha ga
      by_cases e2 : b = r
      · rw [if_pos e2] at gb
        cases gb
        have := h.lt ha la ga
        omega
      · rw [if_neg e2] at hb gb
        exact h.inj a b oa ob xa xb ha la hb lb ga gb e

/-- What stands behind one name has turned. -/
theorem Sim.upd (h : Sim w0 g S w) {r : Nat} {o o' : SO} {x : Nm} (hr : S.get r = some o) (al : o.alive = true) (hx : g r = some x) (k : Kp (fun b => b = x.b) w w') (ho : OR g o' x w'.heap[x.b]?) : Sim w0 g (S.set r o') w' where
  kn := h.kn.trans k (fun i hi e => by have := h.base r x hx; omega)
  base := h.base
  live r' p e := by
    rw [Tr.get_set] at e
    split at e
    · rename_i e1; subst e1; cases e; exact ⟨x, hx, ho⟩
    · rename_i e1
      obtain ⟨y, hy, hoy⟩ := h.live r' p e
      refine ⟨y, hy, ?_⟩
      by_cases lp : p.alive = true
      · rw [k.block y.b (h.lt e lp hy) (fun eb => e1 (h.inj r' r p o y x e lp hr al hy hx eb))]; exact hoy
      · cases p <;> first | exact absurd rfl lp | trivial
  dom r' y e := by
    rw [Tr.get_set]
    split
    · exact ⟨_, rfl⟩
    · exact h.dom r' y e
  inj a b oa ob xa xb ha la hb lb ga gb e := by
    rw [Tr.get_set] at ha hb
    have f : ∀ c oc, (if c = r then some o' else S.get c) = some oc → ∃ od, S.get c = some od ∧ (oc.alive = true → od.alive = true) := fun c oc hc => by
      split at hc
      · rename_i e1; subst e1; exact ⟨o, hr, fun _ => al⟩
      · exact ⟨oc, hc, id⟩
    obtain ⟨pa, ha', la'⟩ := f a oa ha
    obtain ⟨pb, hb', lb'⟩ := f b ob hb
    exact h.inj a b pa pb xa xb ha' (la' la) hb' (lb' lb) ga gb e

/-- One name dies, another one comes, for the same block. -/
theorem Sim.move (h : Sim w0 g S w) {r q : Nat} {o o' : SO} {x : Nm} (hr : S.get r = some o) (al : o.alive = true) (hx : g r = some x) (k : Kp (fun b => b = x.b) w w') (hq : S.get q = none) (ho : OR (g.put q x) o' x w'.heap[x.b]?) :
    Sim w0 (g.put q x) ((S.set r .dead).set q o') w' := by
  have h1 : Sim w0 g (S.set r .dead) w' := h.upd hr al hx k trivial
  have hqr : q ≠ r := fun e => by rw [e, hr] at hq; cases hq
  have hq1 : (S.set r .dead).get q = none := by rw [Tr.get_set, if_neg hqr]; exact hq
  have gq : g q = none := h.none_of hq
  refine ⟨h1.kn, fun r' y e => ?_, fun r' p e => ?_, fun r' y e => ?_, fun a b oa ob xa xb ha la hb lb ga gb e => ?_⟩
  · unfold Gm.put at e; split at e
    · cases e; exact h.base r x hx
    · exact h.base r' y e
  · rw [Tr.get_set] at e
    split at e
    · rename_i e1; subst e1; cases e; exact ⟨x, g.put_self _ _, ho⟩
    · obtain ⟨y, hy, hoy⟩ := h1.live r' p e
      exact ⟨y, Gm.le_put x gq _ _ hy, hoy.mono (Gm.le_put x gq)⟩
  · rw [Tr.get_set]
    unfold Gm.put at e; split at e
    · rename_i e1; rw [if_pos e1]; exact ⟨_, rfl⟩
    · rename_i e1; rw [if_neg e1]; exact h1.dom r' y e
  · rw [Tr.get_set] at ha hb
    unfold Gm.put at ga gb
    have other : ∀ c oc xc, c ≠ q → (S.set r .dead).get c = some oc → oc.alive = true → g c = some xc → xc.b = x.b → False := fun c oc xc hc h2 l2 g2 e2 => by
      rw [Tr.get_set] at h2
      split at h2
      · cases h2; cases l2
      · rename_i e3; exact e3 (h.inj c r oc o xc x h2 l2 hr al g2 hx e2)
    by_cases e1 : a = q
    · by_cases e2 : b = q
      · rw [e1, e2]
      · rw [if_neg e2] at hb gb
        rw [if_pos e1] at ga
        cases ga
        exact (other b ob xb e2 hb lb gb e.symm).elim
    · rw [if_neg e1] at ha ga
      by_cases e2 : b = q
      · rw [if_pos e2] at gb
        cases gb
        exact (other a oa xa e1 ha la ga e).elim
      · rw [if_neg e2] at hb gb
        exact h1.inj a b oa ob xa xb ha la hb lb ga gb e
end
end Go.Proofs.Ytckejldjoajpgaa
