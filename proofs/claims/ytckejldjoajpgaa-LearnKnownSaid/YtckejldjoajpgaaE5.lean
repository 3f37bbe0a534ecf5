/- Operations that ask no world, run on shadow values: all of them together. Nothing of the program. -/
import Derived.Test.YtckejldjoajpgaaE4
namespace Go.Proofs.Ytckejldjoajpgaa
open Go
set_option linter.all false

section
variable {P : Program} {g : Gm}

/-- Options of values. -/
inductive OpR (g : Gm) : Option Value → Option Value → Prop
  | none : OpR g none none
  | some {a b} : VR g a b → OpR g (some a) (some b)

theorem sliceBound_pr {v v' : Value} (h : VR g v v') (y : Nat) (c : BoundsCode) : PR P Eq (Instr.sliceBound v y c) (Instr.sliceBound v' y c) := by
  unfold Instr.sliceBound
  refine .bind (asIntOf_pr h) fun a b e => ?_
  subst e
  exact .same fun _ => rfl

theorem sliceBounds_pr (b : Bool) (len cap : Nat) {lo lo' hi hi' mx mx' : Option Value} (h1 : OpR g lo lo') (h2 : OpR g hi hi') (h3 : OpR g mx mx') : PR P Eq (Instr.sliceBounds b len cap lo hi mx) (Instr.sliceBounds b len cap lo' hi' mx') := by
  unfold Instr.sliceBounds
  cases h3 <;> cases h2 <;> cases h1 <;> simp only [] <;> repeat' (first | exact .same fun _ => rfl | exact .nothing rfl | (refine .bind (sliceBound_pr (by assumption) _ _) fun a b e => ?_; subst e) | refine .bind_eq fun _ => ?_)

/-- The greater room of a row of unknown capacity. -/
theorem sliceBounds_more {len c c' : Nat} (hc : c ≤ c') {lo hi : Option Value} {m : Value} : PR P Eq (Instr.sliceBounds true len c lo hi (some m)) (Instr.sliceBounds true len c' lo hi (some m)) := by
  unfold Instr.sliceBounds
  refine .bind (R := Eq) ?_ fun a b e => e ▸ .same fun _ => rfl
  unfold Instr.sliceBound
  refine .bind_eq fun x => ?_
  obtain ⟨k, i⟩ := x
  simp only []
  by_cases h : 0 ≤ i ∧ i ≤ c
  · rw [if_pos h, if_pos (by omega)]; exact .same fun _ => rfl
  · rw [if_neg h]; exact .nothing (prun_boundsPanic ..)

theorem VR.slice_add {r o : Nat} {x : Nm} (h : g r = some x) (k l c m : Nat) (b : Bool) (hc : c ≠ UNK) : VR g (.slice (some (if b then ⟨r, o, none⟩ else (⟨r, o, none⟩ : Addr).add k)) l c) (.slice (some (if b then ⟨x.b, o, none⟩ else (⟨x.b, o, none⟩ : Addr).add k)) l c) := by
  rw [add_none, add_none]
  split
  · exact .slice h hc
  · exact .slice h hc

/-- No slice of unknown capacity. -/
def capOk : Value → Bool
  | .slice (some _) _ c => !(c == UNK)
  | _ => true

def okCap (o : Option Value) : Option Value := match o with
  | some u => if capOk u then some u else none
  | none => none

/-- A slice expression of a shadow. -/
def sliceS (P : Program) (t : TypeId) (x : Value) (lo hi mx : Option Value) : Option Value :=
  match x with
  | .slice (some a) l c =>
    if c = UNK then
      match mx with
      | none => match lo, hi, prun P (underlying t) with
        | none, none, some (.slice e) => match prun P (sizeOf e) with | some _ => some x | none => none
        | none, some (.int _ h), some (.slice e) => if 0 ≤ h ∧ h ≤ l then (match prun P (sizeOf e) with | some _ => some (.slice (some a) h.toNat UNK) | none => none) else none
        | _, _, _ => none
      | some m => if l = UNK then none else okCap (prun P (Instr.sliceAt t (.slice (some a) l l) lo hi mx))
    else okCap (prun P (Instr.sliceAt t x lo hi mx))
  | _ => okCap (prun P (Instr.sliceAt t x lo hi mx))

theorem sliceAt_pr {v v' : Value} (h : VR g v v') (hc : capOk v = true) (t : TypeId) {lo lo' hi hi' mx mx' : Option Value} (h1 : OpR g lo lo') (h2 : OpR g hi hi') (h3 : OpR g mx mx') : PR P (fun a b => capOk a = true → VR g a b) (Instr.sliceAt t v lo hi mx) (Instr.sliceAt t v' lo' hi' mx') := by
  have ptr : ∀ {x x' : Addr} (_ : VR g (.pointer (some x)) (.pointer (some x'))) (p : Bool) (k l c : Nat), capOk (.slice (some (if p then x else x.add k)) l c) = true → VR g (.slice (some (if p then x else x.add k)) l c) (.slice (some (if p then x' else x'.add k)) l c) := by
    intro x x' hx p k l c hk
    obtain ⟨r, o, s⟩ := x
    obtain ⟨rfl, nm, hn, e⟩ := hx.ptr_inv
    cases e
    exact VR.slice_add hn k l c 0 p (by simpa [capOk] using hk)
  unfold Instr.sliceAt
  refine .bind_eq fun d => ?_
  cases d with
  | array n elem =>
    simp only []
    cases v with
    | pointer a =>
      cases a with
      | none => exact .nothing rfl
      | some a =>
        obtain ⟨r, o, s⟩ := a
        obtain ⟨rfl, nm, hn, rfl⟩ := h.ptr_inv
        refine .bind (R := fun x x' => VR g (.pointer (some x)) (.pointer (some x'))) (.pure h) fun x x' hx => ?_
        refine .bind (sliceBounds_pr _ _ _ h1 h2 h3) fun q _ e => ?_
        subst e
        obtain ⟨l, hh, m⟩ := q
        simp only []
        refine .bind_eq fun size => .pure ?_
        have := ptr hx (decide (m = l)) (l * size) (hh - l) (m - l)
        simpa using this
    | _ => exact .nothing rfl
  | _ =>
    simp only []
    unfold Instr.slice
    refine .bind_eq fun d2 => ?_
    cases v with
    | string s =>
      rw [h.string_inv]
      cases d2 with
      | string =>
        simp only []
        have hm : mx.isSome = mx'.isSome := by cases h3 <;> rfl
        rw [hm]
        split
        · exact .nothing rfl
        · refine .bind (sliceBounds_pr _ _ _ h1 h2 .none) fun q _ e => ?_
          subst e
          exact .pure fun _ => .closed (n := 1) rfl
      | pointer arr => exact .nothing rfl
      | _ => exact .nothing rfl
    | slice a len cap =>
      cases d2 with
      | slice elem =>
        cases a with
        | none =>
          rw [h.slice_nil]
          simp only []
          refine .bind (sliceBounds_pr _ _ _ h1 h2 h3) fun q _ e => ?_
          subst e
          obtain ⟨l, hh, m⟩ := q
          simp only []
          refine .bind_eq fun size => .pure fun _ => ?_
          split <;> exact .closed (n := 1) rfl
        | some a =>
          obtain ⟨r, o, s⟩ := a
          obtain ⟨rfl, nm, hn, rfl, _⟩ := h.slice_inv
          have hcap : cap ≠ UNK := by simpa [capOk] using hc
          rw [if_neg hcap]
          simp only []
          refine .bind (sliceBounds_pr _ _ _ h1 h2 h3) fun q _ e => ?_
          subst e
          obtain ⟨l, hh, m⟩ := q
          simp only []
          refine .bind_eq fun size => .pure ?_
          have := ptr (.ptr hn (o := o)) (decide (m = l)) (l * size) (hh - l) (m - l)
          intro hk
          split
          · rename_i e
            rw [if_pos e] at hk
            simpa [e] using this (by simpa [e] using hk)
          · rename_i e
            rw [if_neg e] at hk
            simp only [Option.map_some] at hk ⊢
            simpa [e] using this (by simpa [e] using hk)
      | pointer arr => exact .nothing rfl
      | _ => exact .nothing rfl
    | pointer a =>
      cases d2 with
      | pointer arr =>
        simp only []
        refine .bind (asAddr_pr h) fun x x' hx => ?_
        refine .bind_eq fun d3 => ?_
        cases d3 with
        | array n elem =>
          simp only []
          refine .bind (sliceBounds_pr _ _ _ h1 h2 h3) fun q _ e => ?_
          subst e
          obtain ⟨l, hh, m⟩ := q
          simp only []
          refine .bind_eq fun size => .pure ?_
          have := ptr hx (decide (m = l)) (l * size) (hh - l) (m - l)
          simpa using this
        | _ => exact .nothing rfl
      | _ => exact .nothing rfl
    | _ => cases d2 <;> exact .nothing rfl

end
end Go.Proofs.Ytckejldjoajpgaa
