/- Operations that ask no world, run on shadow values. Nothing of the program. -/
import Derived.Test.YtckejldjoajpgaaE2
namespace Go.Proofs.Ytckejldjoajpgaa
open Go
set_option linter.all false

section
variable {α β γ δ : Type} {P : Program}

/-- A tree that asks for the program alone. -/
def prun (P : Program) : Sem α → Option α
  | .pure a => some a
  | .program k => prun P (k P)
  | .mark _ k => prun P k
  | _ => none

theorem prun_run : ∀ {s : Sem α} {a : α}, prun P s = some a → ∀ w, s.run P w = .ok a w := by
  intro s
  induction s with
  | pure a => intro a' h w; simp only [prun] at h; cases h; rfl
  | program k ih => intro a h w; simp only [prun] at h; simp only [Sem.run]; exact ih P h w
  | mark m k ih => intro a h w; simp only [prun] at h; simp only [Sem.run]; exact ih h w
  | _ => intro a h; simp [prun] at h

theorem prun_bind (s : Sem α) (k : α → Sem β) : prun P (s >>= k) = (prun P s).bind fun a => prun P (k a) := by
  show prun P (Sem.bind s k) = _
  induction s with
  | pure a => rfl
  | program k ih => simp only [Sem.bind, prun]; exact ih P
  | mark m k ih => simp only [Sem.bind, prun]; exact ih
  | _ => simp [Sem.bind, prun]

/-- What the one gives, the other one gives too, up to names. -/
def PR (P : Program) (R : α → β → Prop) (s : Sem α) (s' : Sem β) : Prop := ∀ a, prun P s = some a → ∃ a', prun P s' = some a' ∧ R a a'

theorem PR.pure {R : α → β → Prop} {a : α} {b : β} (h : R a b) : PR P R (Pure.pure a) (Pure.pure b) := fun x e => by
  cases e; exact ⟨b, rfl, h⟩
theorem PR.bind {R : α → β → Prop} {T : γ → δ → Prop} {s : Sem α} {s' : Sem β} {k : α → Sem γ} {k' : β → Sem δ} (h : PR P R s s') (hk : ∀ a b, R a b → PR P T (k a) (k' b)) : PR P T (s >>= k) (s' >>= k') := fun x e => by
  rw [prun_bind] at e
  cases hs : prun P s with
  | none => rw [hs] at e; cases e
  | some a =>
    rw [hs] at e
    obtain ⟨b, hb, r⟩ := h a hs
    obtain ⟨y, hy, t⟩ := hk a b r x e
    exact ⟨y, by rw [prun_bind, hb]; exact hy, t⟩
theorem PR.bind_eq {T : γ → δ → Prop} {s : Sem α} {k : α → Sem γ} {k' : α → Sem δ} (hk : ∀ a, PR P T (k a) (k' a)) : PR P T (s >>= k) (s >>= k') :=
  .bind (R := Eq) (fun a e => ⟨a, e, rfl⟩) (fun a b e => e ▸ hk a)
theorem PR.same {R : α → α → Prop} {s : Sem α} (h : ∀ a, R a a) : PR P R s s := fun a e => ⟨a, e, h a⟩
theorem PR.mono {R T : α → β → Prop} {s : Sem α} {s' : Sem β} (h : PR P R s s') (hr : ∀ a b, R a b → T a b) : PR P T s s' := fun a e => by
  obtain ⟨b, x, y⟩ := h a e; exact ⟨b, x, hr _ _ y⟩
theorem PR.nothing {R : α → β → Prop} {s : Sem α} {s' : Sem β} (h : prun P s = none) : PR P R s s' := fun a e => by rw [h] at e; cases e

@[simp] theorem prun_stuck (s : String) : prun P (stuck s : Sem α) = none := rfl
@[simp] theorem prun_unsupported (s) : prun P (unsupported s : Sem α) = none := rfl
@[simp] theorem prun_goPanic (v) : prun P (goPanic v : Sem α) = none := rfl

theorem prun_runtimePanic (e : RuntimeError) : prun P (runtimePanic e : Sem α) = none := by
  unfold runtimePanic
  rw [prun_bind]
  simp only [program, prun, Option.bind]
  cases e <;> first
    | rfl
    | (simp only [prun_bind]; simp [newVar, newRow, newObj, prun_bind, prun])
theorem prun_boundsPanic (k x y c) : prun P (boundsPanic k x y c : Sem α) = none := by
  unfold boundsPanic
  simp only []
  split
  · rw [prun_bind]
    cases h : prun P _ with
    | none => rfl
    | some b => simp [prun_runtimePanic]
  · rw [prun_bind]
    simp [prun_runtimePanic, Option.bind]
    split <;> rfl
end

section
variable {P : Program} {g : Gm}

theorem VR.cells {v v' : Value} (h : VR g v v') : LR g v.cells.toList v'.cells.toList := by
  have one : ∀ {v v' : Value}, VR g v v' → LR g [v] [v'] := fun h => .cons h .nil
  cases v with
  | agg c => obtain ⟨c', rfl, hc⟩ := h.agg_inv; exact hc
  | bool b => rw [h.bool_inv]; exact one (.closed (n := 1) rfl)
  | _ =>
    have k := h
    cases h with
    | closed e => rename_i n; exact .of_closed (n := n) (by simpa [Value.cells] using e)
    | _ => first | exact one k

theorem add_none (b o k : Nat) : (⟨b, o, none⟩ : Addr).add k = ⟨b, o + k, none⟩ := by
  unfold Addr.add; split <;> simp_all
theorem VR.ptr_add {r o : Nat} {x : Nm} (h : g r = some x) (k : Nat) : VR g (.pointer (some ((⟨r, o, none⟩ : Addr).add k))) (.pointer (some ((⟨x.b, o, none⟩ : Addr).add k))) := by
  rw [add_none, add_none]; exact .ptr h

theorem part_pr {c c' : Array Value} (h : LR g c.toList c'.toList) (t : TypeId) (off : Nat) : PR P (VR g) (part t c off) (part t c' off) := by
  unfold part
  refine .bind_eq fun b => ?_
  split
  · refine .bind_eq fun n => .pure ?_
    have := (h.take (off + n)).drop off
    refine .agg (by simp; have := h.1; simp at this; omega) fun i v v' a b => ?_
    rw [← Array.getElem?_toList] at a b
    rw [Array.toList_extract, List.extract_eq_take_drop] at a b
    have h2 := (h.drop off).take (off + n - off)
    exact h2.2 i v v' a b
  · cases hv : c[off]? with
    | none => exact .nothing rfl
    | some v =>
      obtain ⟨v', e, r⟩ := h.get (i := off) (v := v) (by simpa using hv)
      simp at e
      rw [e]
      exact .pure r

theorem extract_pr {v v' : Value} (h : VR g v v') (i : Nat) : PR P (VR g) (Instr.extract v i) (Instr.extract v' i) := by
  cases v with
  | tuple c =>
    obtain ⟨c', rfl, hc⟩ := h.tuple_inv
    unfold Instr.extract
    cases hv : c[i]? with
    | none => exact .nothing (by simp [hv])
    | some u =>
      obtain ⟨u', e, r⟩ := hc.get (i := i) (v := u) (by simpa using hv)
      simp at e
      simp only [hv, e]
      exact .pure r
  | _ => exact .nothing rfl

theorem field_pr {v v' : Value} (h : VR g v v') (t : TypeId) (i : Nat) : PR P (VR g) (Instr.field t v i) (Instr.field t v' i) := by
  unfold Instr.field
  refine .bind_eq fun d => ?_
  split
  · split
    · cases v with
      | agg c =>
        obtain ⟨c', rfl, hc⟩ := h.agg_inv
        refine .bind (R := fun a b => LR g a.toList b.toList) (.pure hc) fun a b hab => part_pr hab _ _
      | _ => exact .nothing (by rw [prun_bind]; rfl)
    · exact .nothing rfl
  · exact .nothing rfl

theorem asIntOf_pr {v v' : Value} (h : VR g v v') : PR P Eq (asIntOf v) (asIntOf v') := by
  cases v with
  | int k n => rw [h.int_inv]; exact .same fun _ => rfl
  | pointer a => cases a <;> exact .nothing rfl
  | _ => exact .nothing rfl

theorem makeInterface_pr {v v' : Value} (h : VR g v v') (t : TypeId) : PR P (VR g) (Instr.makeInterface t v) (Instr.makeInterface t v') := by
  unfold Instr.makeInterface
  refine .bind_eq fun d => ?_
  split
  · exact .nothing rfl
  · exact .pure (.iface h)

theorem fieldAt_pr {v v' : Value} (h : VR g v v') (t : TypeId) (i : Nat) : PR P (VR g) (Instr.fieldAt t v i) (Instr.fieldAt t v' i) := by
  unfold Instr.fieldAt
  refine .bind_eq fun d => ?_
  split
  · split
    · cases v with
      | pointer a =>
        cases a with
        | none => exact .nothing rfl
        | some a =>
          obtain ⟨r, o, s⟩ := a
          obtain ⟨rfl, nm, hn, rfl⟩ := h.ptr_inv
          simp only [Instr.sureAddr]
          unfold fieldPlace
          intro x e
          simp only [prun_bind, Option.bind] at e ⊢
          simp only [Pure.pure, prun] at e ⊢
          cases hz : prun P (sizeOf _) with
          | none => rw [hz] at e; simp at e
          | some n =>
            rw [hz] at e
            by_cases n0 : n = 0
            · subst n0
              simp [partAt, byteOf, prun_bind, noView, viewAt, shape, prun, Pure.pure, program, Bind.bind, Sem.bind] at e
            · simp [n0, Pure.pure, prun] at e ⊢
              subst e
              exact .ptr_add hn _
      | _ => exact .nothing rfl
    · exact .nothing rfl
  · exact .nothing rfl

theorem VR.slice_nil {l c : Nat} {x : Value} (h : VR g (.slice none l c) x) : x = .slice none l c := h.eq_of_closed (n := 1) rfl

theorem indexAt_pr {v v' k k' : Value} (h : VR g v v') (hk : VR g k k') (t : TypeId) : PR P (VR g) (Instr.indexAt t v k) (Instr.indexAt t v' k') := by
  unfold Instr.indexAt
  refine .bind (asIntOf_pr hk) fun a b e => ?_
  subst e
  obtain ⟨kd, i⟩ := a
  simp only []
  refine .bind_eq fun d => ?_
  have fin : ∀ (b : Nat × Nat × TypeId) (base base' : Option Addr) (l : Nat) (el : TypeId) (tiny : Bool), (base = none ∧ base' = none ∨ ∃ r o x, g r = some x ∧ base = some ⟨r, o, none⟩ ∧ base' = some ⟨x.b, o, none⟩) →
      PR P (VR g)
        (match base with
          | some a => if 0 ≤ i ∧ i < l then do pure (.pointer (some (a.add (i.toNat * (← sizeOf el))))) else if tiny then unsupported (.noEntry "op/indexAddr.an index out of range at an array of length 0 or 1 (ledger 616)") else boundsPanic kd i l .index
          | none => boundsPanic kd i 0 .index)
        (match base' with
          | some a => if 0 ≤ i ∧ i < l then do pure (.pointer (some (a.add (i.toNat * (← sizeOf el))))) else if tiny then unsupported (.noEntry "op/indexAddr.an index out of range at an array of length 0 or 1 (ledger 616)") else boundsPanic kd i l .index
          | none => boundsPanic kd i 0 .index) := by
    intro _ base base' l el tiny hb
    rcases hb with ⟨rfl, rfl⟩ | ⟨r, o, x, hx, rfl, rfl⟩
    · exact .nothing (prun_boundsPanic ..)
    · simp only []
      split
      · exact .bind_eq fun n => .pure (.ptr_add hx _)
      · split
        · exact .nothing rfl
        · exact .nothing (prun_boundsPanic ..)
  have fin2 : ∀ (A B : Option Addr × Nat × TypeId), A.2 = B.2 → (A.1 = none ∧ B.1 = none ∨ ∃ r o x, g r = some x ∧ A.1 = some ⟨r, o, none⟩ ∧ B.1 = some ⟨x.b, o, none⟩) → PR P (VR g)
      (do let d ← underlying t
          match A.1 with
          | some a => if 0 ≤ i ∧ i < A.2.1 then do pure (.pointer (some (a.add (i.toNat * (← sizeOf A.2.2))))) else if (decide (A.2.1 ≤ 1) && (match d with | .array .. => true | _ => false)) = true then unsupported (.noEntry "op/indexAddr.an index out of range at an array of length 0 or 1 (ledger 616)") else boundsPanic kd i A.2.1 .index
          | none => boundsPanic kd i 0 .index)
      (do let d ← underlying t
          match B.1 with
          | some a => if 0 ≤ i ∧ i < B.2.1 then do pure (.pointer (some (a.add (i.toNat * (← sizeOf B.2.2))))) else if (decide (B.2.1 ≤ 1) && (match d with | .array .. => true | _ => false)) = true then unsupported (.noEntry "op/indexAddr.an index out of range at an array of length 0 or 1 (ledger 616)") else boundsPanic kd i B.2.1 .index
          | none => boundsPanic kd i 0 .index) := by
    rintro ⟨base, l, el⟩ ⟨base', l', el'⟩ e1 e2
    simp only [Prod.mk.injEq] at e1
    obtain ⟨rfl, rfl⟩ := e1
    exact .bind_eq fun d2 => fin (0, 0, 0) base base' l el _ e2
  split
  · cases v with
    | pointer a =>
      cases a with
      | none => exact .nothing rfl
      | some a =>
        obtain ⟨r, o, s⟩ := a
        obtain ⟨rfl, nm, hn, rfl⟩ := h.ptr_inv
        exact fin2 (some ⟨r, o, none⟩, _, _) (some ⟨nm.b, o, none⟩, _, _) rfl (.inr ⟨r, o, nm, hn, rfl, rfl⟩)
    | _ => exact .nothing rfl
  · rename_i el base len cap
    cases base with
    | none => rw [h.slice_nil]; exact fin2 (none, len, el) (none, len, el) rfl (.inl ⟨rfl, rfl⟩)
    | some a =>
      obtain ⟨r, o, s⟩ := a
      obtain ⟨rfl, nm, hn, rfl, _⟩ := h.slice_inv
      exact fin2 (some ⟨r, o, none⟩, len, el) (some ⟨nm.b, o, none⟩, len, el) rfl (.inr ⟨r, o, nm, hn, rfl, rfl⟩)
  · exact .nothing rfl

theorem index_pr {v v' k k' : Value} (h : VR g v v') (hk : VR g k k') (t : TypeId) : PR P (VR g) (Instr.index t v k) (Instr.index t v' k') := by
  unfold Instr.index
  refine .bind (asIntOf_pr hk) fun a b e => ?_
  subst e
  obtain ⟨kd, i⟩ := a
  simp only []
  refine .bind_eq fun d => ?_
  cases v with
  | agg c =>
    obtain ⟨c', rfl, hc⟩ := h.agg_inv
    cases d with
    | array len el =>
      simp only []
      split
      · exact .bind_eq fun n => part_pr hc _ _
      · exact .nothing (prun_boundsPanic ..)
    | _ => exact .nothing rfl
  | string s =>
    rw [h.string_inv]
    cases d with
    | string =>
      simp only []
      split
      · exact .pure (.closed (n := 1) rfl)
      · exact .nothing (prun_boundsPanic ..)
    | _ => exact .nothing rfl
  | _ => cases d <;> exact .nothing rfl

theorem makeFunc_pr {f : FuncId} {c c' : List Value} (h : LR g c c') : VR g (.func (.func f) #[] c.toArray) (.func (.func f) #[] c'.toArray) :=
  .func (by simp [h.1]) fun i v v' a b => h.2 i v v' (by simpa using a) (by simpa using b)

theorem asAddr_pr {v v' : Value} (h : VR g v v') : PR P (fun a b => VR g (.pointer (some a)) (.pointer (some b))) (asAddr v) (asAddr v') := by
  cases v with
  | pointer a =>
    cases a with
    | none => exact .nothing (by show prun P (runtimePanic .nilDeref : Sem Addr) = none; exact prun_runtimePanic _)
    | some a =>
      obtain ⟨r, o, s⟩ := a
      obtain ⟨rfl, nm, hn, rfl⟩ := h.ptr_inv
      exact .pure (.ptr hn)
  | _ => exact .nothing rfl
end
end Go.Proofs.Ytckejldjoajpgaa
