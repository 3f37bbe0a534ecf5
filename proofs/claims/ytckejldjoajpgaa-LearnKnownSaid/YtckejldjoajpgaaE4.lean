/- Operations that ask no world, run on shadow values: structs, slices, comparisons; all of them together. Nothing of the program. -/
import Derived.Test.YtckejldjoajpgaaE3
namespace Go.Proofs.Ytckejldjoajpgaa
open Go
set_option linter.all false

/-- Zero values have no address. -/
def ZC (P : Program) (N : Nat) : Prop := ∀ t v, t < N → prun P (zeroValue t) = some v → closed 4 v = true
def zcB (P : Program) (N : Nat) : Bool := decide (N ≤ P.types.size) && P.types.toList.all fun i => match i.zero with | none => true | some v => closed 4 v
theorem zc_of {P : Program} {N : Nat} (h : zcB P N = true) : ZC P N := fun t v ht e => by
  simp only [zcB, Bool.and_eq_true, decide_eq_true_eq] at h
  have htt : t < P.types.size := by omega
  unfold zeroValue typeInfo at e
  simp only [prun_bind, program, prun, Option.bind, Tables.info?, if_pos htt] at e
  cases hi : P.types[t]? with
  | none => simp [hi] at e
  | some i =>
    simp only [hi] at e
    simp only [Pure.pure, prun] at e
    have := List.all_eq_true.1 h.2 i (List.mem_of_getElem? (by simpa using hi))
    cases hz : i.zero with
    | none => simp [hz] at e
    | some z =>
      simp [hz, Pure.pure, prun] at e
      subst e
      simpa [hz] using this

section
variable {P : Program} {g : Gm}

theorem foldl_rel (off : Nat) : ∀ {l l' : List (Value × Nat)}, L2 (fun a b => VR g a.1 b.1 ∧ a.2 = b.2) l l' → ∀ {c c' : Array Value}, LR g c.toList c'.toList →
    LR g (l.foldl (fun cs x => cs.setIfInBounds (off + x.2) x.1) c).toList (l'.foldl (fun cs x => cs.setIfInBounds (off + x.2) x.1) c').toList := by
  intro l l' h
  induction h with
  | nil => intro c c' hc; exact hc
  | cons hx _ ih =>
    intro c c' hc
    simp only [List.foldl_cons]
    refine ih ?_
    rw [hx.2]
    simpa using hc.set hx.1 _

theorem LR.forall₂ {c c' : List Value} (h : LR g c c') : L2 (VR g) c c' := by
  induction c generalizing c' with
  | nil => cases c' with | nil => exact .nil | cons => simp [LR] at h
  | cons a c ih =>
    cases c' with
    | nil => simp [LR] at h
    | cons b c' =>
      refine .cons (h.2 0 a b rfl rfl) (ih ⟨by simpa using h.1, fun i v v' x y => h.2 (i + 1) v v' (by simpa using x) (by simpa using y)⟩)

theorem zipIdx_rel {c c' : List Value} (h : L2 (VR g) c c') : ∀ k, L2 (fun a b => VR g a.1 b.1 ∧ a.2 = b.2) (c.zipIdx k) (c'.zipIdx k) := by
  induction h with
  | nil => intro k; exact .nil
  | cons hx _ ih => intro k; simp only [List.zipIdx_cons]; exact .cons ⟨hx, rfl⟩ (ih _)

theorem fill_rel (place : Nat → Option (Nat × Nat)) : ∀ {ps ps' : List (Nat × Value)}, L2 (fun a b => a.1 = b.1 ∧ VR g a.2 b.2) ps ps' → ∀ {c c' : Array Value}, LR g c.toList c'.toList →
    ∀ out, Instr.fill place c ps = some out → ∃ out', Instr.fill place c' ps' = some out' ∧ LR g out.toList out'.toList := by
  intro ps ps' h
  induction h with
  | nil => intro c c' hc out e; simp only [Instr.fill] at e ⊢; cases e; exact ⟨c', rfl, hc⟩
  | @cons a b _ _ hx _ ih =>
    intro c c' hc out e
    obtain ⟨i, v⟩ := a
    obtain ⟨i', v'⟩ := b
    obtain ⟨hi, hv⟩ := hx
    simp only at hi hv
    subst hi
    simp only [Instr.fill] at e ⊢
    cases hp : place i with
    | none => simp [hp] at e
    | some x =>
      obtain ⟨off, size⟩ := x
      simp only [hp] at e ⊢
      have hs : v.cells.size = v'.cells.size := hv.cells.1
      have hcs : c.size = c'.size := hc.1
      rw [← hs, ← hcs]
      split at e
      · cases e
      · rename_i hn
        rw [if_neg hn]
        refine ih ?_ out e
        have := foldl_rel off (zipIdx_rel hv.cells.forall₂ 0) hc
        simp only [← Array.foldl_toList, Array.toList_zipIdx]
        exact this

theorem build_pr {N : Nat} (hz : ZC P N) (t : TypeId) (ht : t < N) {ps ps' : Array (Nat × Value)} (h : L2 (fun a b => a.1 = b.1 ∧ VR g a.2 b.2) ps.toList ps'.toList) : PR P (VR g) (Instr.build t ps) (Instr.build t ps') := by
  unfold Instr.build
  refine .bind (R := fun a b => a = b ∧ closed 4 a = true) (fun a e => ⟨a, e, rfl, hz t a ht e⟩) ?_
  rintro z _ ⟨rfl, hc⟩
  simp only []
  have hzr : LR g z.cells.toList z.cells.toList := (VR.closed hc).cells
  refine .bind_eq fun d => ?_
  split
  · refine .bind_eq fun places => ?_
    cases hf : Instr.fill (fun x => places[x]?) z.cells ps.toList with
    | none => exact .nothing rfl
    | some out =>
      obtain ⟨out', e, r⟩ := fill_rel _ h hzr out hf
      simp only [e]
      exact .pure (VR.agg r.toAgg.1 r.toAgg.2)
  · refine .bind_eq fun size => ?_
    cases hf : Instr.fill (fun i => some (i * size, size)) z.cells ps.toList with
    | none => exact .nothing rfl
    | some out =>
      obtain ⟨out', e, r⟩ := fill_rel _ h hzr out hf
      simp only [e]
      exact .pure (VR.agg r.toAgg.1 r.toAgg.2)
  · exact .nothing rfl

theorem VR.tup2 {a a' : Value} (h : VR g a a') (b : Bool) : VR g (.tuple #[a, .bool b]) (.tuple #[a', .bool b]) :=
  .tuple rfl (LR.toAgg (c := #[a, .bool b]) (c' := #[a', .bool b]) (.cons h (.cons (.closed (n := 1) rfl) .nil))).2

theorem typeAssert_pr {N : Nat} (hz : ZC P N) {v v' : Value} (h : VR g v v') (xt t : TypeId) (ht : t < N) (ok : Bool) : PR P (VR g) (Instr.typeAssert v xt t ok) (Instr.typeAssert v' xt t ok) := by
  have holds : ∀ {u u' : Value}, VR g u u' → PR P (VR g) (Pure.pure (if ok then .tuple #[u, .bool true] else u) : Sem Value) (Pure.pure (if ok then .tuple #[u', .bool true] else u')) := fun hu => .pure (by
    split
    · exact hu.tup2 true
    · exact hu)
  have fails : ∀ (s d : Option TypeId) (m : String), PR P (VR g)
      (if ok = true then do pure (Value.tuple #[← zeroValue t, .bool false]) else runtimePanic (.typeAssertion s d t m))
      (if ok = true then do pure (Value.tuple #[← zeroValue t, .bool false]) else runtimePanic (.typeAssertion s d t m)) := fun s d m => by
    split
    · refine .bind (R := fun a b => a = b ∧ closed 4 a = true) (fun a e => ⟨a, e, rfl, hz t a ht e⟩) ?_
      rintro z _ ⟨rfl, hc⟩
      exact .pure (VR.tup2 (.closed hc) false)
    · exact .nothing (prun_runtimePanic _)
  unfold Instr.typeAssert
  simp only []
  refine .bind_eq fun d => ?_
  cases v with
  | nilIface =>
    have : v' = .nilIface := h.eq_of_closed (n := 1) rfl
    subst this
    cases d <;> exact fails _ _ _
  | iface u x =>
    obtain ⟨x', rfl, hx⟩ := h.iface_inv
    cases d with
    | interface want =>
      simp only []
      refine .bind_eq fun i => ?_
      split
      · exact holds h
      · exact fails _ _ _
    | _ =>
      simp only []
      split
      · exact holds hx
      · exact fails _ _ _
  | _ => cases d <;> exact .nothing rfl
end
end Go.Proofs.Ytckejldjoajpgaa
