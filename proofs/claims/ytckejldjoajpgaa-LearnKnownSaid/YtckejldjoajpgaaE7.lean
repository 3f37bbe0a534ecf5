/- Operations that ask no world, run on shadow values: the value of one, and that it is so (2). Nothing of the program. -/
import Derived.Test.YtckejldjoajpgaaE6
namespace Go.Proofs.Ytckejldjoajpgaa
open Go
set_option linter.all false

/-- An operand's shadow. -/
def opnd (ts : List Value) : Operand → Option Value
  | .tmp t => ts[t]?
  | .const v => if closed 4 v then some v else none
  | .func f => some (.func (.func f) #[] #[])
  | .global _ => none
def sv (ts : List Value) (x : Operand) : Value := (opnd ts x).getD undef
def allS (ts : List Value) (o : Op) : Bool := o.operands.toList.all fun x => (opnd ts x).isSome

def okClo (o : Option Value) : Option Value := match o with
  | some u => if closed 4 u then some u else none
  | none => none
theorem okClo_some {o : Option Value} {u : Value} (h : okClo o = some u) : o = some u ∧ closed 4 u = true := by
  cases o with
  | none => cases h
  | some x => simp only [okClo] at h; split at h <;> cases h; exact ⟨rfl, by assumption⟩

/-- A comparison with nil. -/
def nilCmp (P : Program) (t : TypeId) (a b : Value) : Bool :=
  match a, b, prun P (underlying t) with
  | .pointer (some _), .pointer none, some (.pointer _) => true
  | .slice (some _) _ _, .slice none _ _, some (.slice _) => true
  | .map (some _), .map none, some (.map _ _) => true
  | .func _ _ _, .nilFunc, some (.func _ _ _) => true
  | .iface _ _, .nilIface, some (.interface _) => true
  | .pointer none, .pointer (some _), some (.pointer _) => true
  | .nilIface, .iface _ _, some (.interface _) => true
  | _, _, _ => false
def eqNil (P : Program) (op : BinOp) (t : TypeId) (a b : Value) : Option Value :=
  if nilCmp P t a b then (match op with | .eql => some (.bool false) | .neq => some (.bool true) | _ => none) else none

section
variable {P : Program} {g : Gm} {ts : List Value} {a : Act}

theorem opnd_ok (h : LR g ts a.tmps.toList) {x : Operand} {v : Value} (e : opnd ts x = some v) : VR g v (a.eval x) := by
  cases x with
  | tmp t =>
    obtain ⟨v', e1, r⟩ := h.get e
    have : a.eval (.tmp t) = v' := by
      have : a.tmps[t]? = some v' := by simpa using e1
      simp [Act.eval, Array.getD_eq_getD_getElem?, this]
    rw [this]; exact r
  | const v' => simp only [opnd] at e; split at e <;> cases e; rename_i h1; exact .closed h1
  | func f => cases e; exact .closed (n := 1) rfl
  | global k => cases e

theorem sv_ok (h : LR g ts a.tmps.toList) {o : Op} (e : allS ts o = true) {x : Operand} (hx : x ∈ o.operands.toList) : VR g (sv ts x) (a.eval x) := by
  have := List.all_eq_true.1 e x hx
  cases hv : opnd ts x with
  | none => rw [hv] at this; cases this
  | some v => simp only [sv, hv, Option.getD_some]; exact opnd_ok h hv

theorem eqNil_ok {v v' u u' : Value} (hv : VR g v v') (hu : VR g u u') (op : BinOp) (t : TypeId) (x y : Operand) {r : Value} (e : eqNil P op t v u = some r) :
    prun P (do eqGuard op t x y v' u'; binOp op t v' u') = some r ∧ closed 4 r = true := by
  have he : ∀ (p q : Value), prun P (Op.equal t p q) = prun P (Op.equalIn (9999 + 1) t p q) := fun _ _ => rfl
  have hn : nilCmp P t v u = true := by
    by_cases hn : nilCmp P t v u = true
    · exact hn
    · simp only [eqNil, if_neg hn] at e; cases e
  simp only [eqNil, if_pos hn] at e
  have fin : (op = .eql ∨ op = .neq → prun P (eqGuard op t x y v' u') = some ()) → binOp .eql t v' u' = (do pure (.bool (← Op.equal t v' u'))) → binOp .neq t v' u' = (do pure (.bool (!(← Op.equal t v' u')))) → prun P (Op.equal t v' u') = some false →
      prun P (do eqGuard op t x y v' u'; binOp op t v' u') = some r ∧ closed 4 r = true := by
    intro hg h1 h2 h3
    cases op <;> first
      | (cases e; refine ⟨?_, rfl⟩; rw [prun_bind, hg (by simp)]; simp only [Option.bind]; first | (rw [h1, prun_bind, h3]; rfl) | (rw [h2, prun_bind, h3]; rfl))
      | exact nomatch e
  unfold nilCmp at hn
  split at hn <;> first | (exfalso; exact Bool.noConfusion hn) | skip
  all_goals
    rename_i hd
    first
      | (obtain ⟨_, nm, _, rfl⟩ := hv.ptr_inv; have hu := hu.eq_of_closed (n := 1) rfl; subst hu)
      | (obtain ⟨_, nm, _, rfl, _⟩ := hv.slice_inv; have hu := hu.eq_of_closed (n := 1) rfl; subst hu)
      | (obtain ⟨nm, _, rfl⟩ := hv.map_inv; have hu := hu.eq_of_closed (n := 1) rfl; subst hu)
      | (obtain ⟨_, rfl, _⟩ := hv.iface_inv; have hu := hu.eq_of_closed (n := 1) rfl; subst hu)
      | (obtain ⟨_, nm, _, rfl⟩ := hu.ptr_inv; have hv := hv.eq_of_closed (n := 1) rfl; subst hv)
      | (obtain ⟨_, rfl, _⟩ := hu.iface_inv; have hv := hv.eq_of_closed (n := 1) rfl; subst hv)
      | (have hu := hu.eq_of_closed (n := 1) rfl; subst hu; have hf : ∃ f c d, v' = .func f c d := (by cases hv <;> exact ⟨_, _, _, rfl⟩); obtain ⟨_, _, _, rfl⟩ := hf)
    refine fin (fun ho => by rcases ho with rfl | rfl <;> rfl) (by simp [binOp]) (by simp [binOp]) ?_
    rw [he]
    generalize 9999 = dd
    simp only [Op.equalIn, prun_bind, hd, Option.bind]
    rfl

theorem len_pr {v v' : Value} (h : VR g v v') (ats : Array TypeId) (t : TypeId) : PR P (VR g) (Builtin.len_ ats t #[v]) (Builtin.len_ ats t #[v']) := by
  unfold Builtin.len_
  have i : ∀ n : Int, VR g (goInt n) (goInt n) := fun n => .closed (n := 1) rfl
  cases ha : ats[0]? with
  | none => exact .nothing rfl
  | some t0 =>
    simp only [List.getElem?_toArray, List.getElem?_cons_zero]
    refine .bind_eq fun d => ?_
    cases v with
    | string s => rw [h.string_inv]; cases d <;> first | exact .nothing rfl | exact .pure (i _) | (exact .bind_eq fun d2 => (by cases d2 <;> first | exact .pure (i _) | exact .nothing rfl))
    | slice s l c =>
      have : ∃ s' c', v' = .slice s' l c' := by
        cases h <;> exact ⟨_, _, rfl⟩
      obtain ⟨s', c', rfl⟩ := this
      cases d <;> first | exact .nothing rfl | exact .pure (i _) | (exact .bind_eq fun d2 => (by cases d2 <;> first | exact .pure (i _) | exact .nothing rfl))
    | map r =>
      cases r with
      | none =>
        have h := h.eq_of_closed (n := 1) rfl
        subst h
        cases d <;> first | exact .nothing rfl | exact .pure (i _) | (exact .bind_eq fun d2 => (by cases d2 <;> first | exact .pure (i _) | exact .nothing rfl))
      | some r => cases d <;> first | exact .nothing rfl | exact .pure (i _) | (exact .bind_eq fun d2 => (by cases d2 <;> first | exact .pure (i _) | exact .nothing rfl))
    | chan r =>
      have : r = none := by
        cases r with
        | none => rfl
        | some r => cases h with | @closed n _ e => cases n <;> simp [closed] at e
      subst this
      have h := h.eq_of_closed (n := 1) rfl
      subst h
      cases d <;> first | exact .nothing rfl | exact .pure (i _) | (exact .bind_eq fun d2 => (by cases d2 <;> first | exact .pure (i _) | exact .nothing rfl))
    | _ => cases d <;> first | exact .nothing rfl | exact .pure (i _) | (exact .bind_eq fun d2 => (by cases d2 <;> first | exact .pure (i _) | exact .nothing rfl))
end
end Go.Proofs.Ytckejldjoajpgaa
