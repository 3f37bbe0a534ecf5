/- Operations that ask no world, run on shadow values: the value of one, and that it is so (3). Nothing of the program. -/
import Derived.Test.YtckejldjoajpgaaE7
namespace Go.Proofs.Ytckejldjoajpgaa
open Go
set_option linter.all false

/-- The value of an operation that asks no world. -/
def pVal (P : Program) (N : Nat) (ts : List Value) (o : Oper) : Option Value :=
  if allS ts o.op then
    match o.op with
    | .move x | .assign x => some (sv ts x)
    | .pick c a b => match sv ts c with
      | .bool t => some (if t then sv ts a else sv ts b)
      | _ => none
    | .nilCheck x => match sv ts x with
      | .pointer (some a) => some (.pointer (some a))
      | .iface t v => some (.iface t v)
      | .func (.func f) b c => some (.func (.func f) b c)
      | _ => none
    | .binOp op t x y _ => if closed 4 (sv ts x) && closed 4 (sv ts y) then okClo (prun P (do eqGuard op t x y (sv ts x) (sv ts y); binOp op t (sv ts x) (sv ts y))) else eqNil P op t (sv ts x) (sv ts y)
    | .unOp op _ x => if closed 4 (sv ts x) then okClo (prun P (Op.unary op (sv ts x))) else none
    | .convert s d x => if closed 4 (sv ts x) then okClo (prun P (convert s d (sv ts x))) else none
    | .sliceToArrayPointer arr x => prun P (Instr.arrayAt arr (sv ts x))
    | .makeInterface t x => prun P (Instr.makeInterface t (sv ts x))
    | .makeFunc (.func f) first captured => if first.size = 0 then some (.func (.func f) #[] (captured.map (sv ts))) else none
    | .slice t x lo hi mx => sliceS P t (sv ts x) (lo.map (sv ts)) (hi.map (sv ts)) (mx.map (sv ts))
    | .fieldAddr s x f => prun P (Instr.fieldAt s (sv ts x) f)
    | .field t x f => prun P (Instr.field t (sv ts x) f)
    | .indexAddr t x ix => prun P (Instr.indexAt t (sv ts x) (sv ts ix))
    | .index t x ix => prun P (Instr.index t (sv ts x) (sv ts ix))
    | .extract x ix => prun P (Instr.extract (sv ts x) ix)
    | .typeAssert x xt t ok => if t < N then prun P (Instr.typeAssert (sv ts x) xt t ok) else none
    | .build t parts => if t < N then prun P (Instr.build t (parts.map fun (i, x) => (i, sv ts x))) else none
    | .call c => match c.callee with
      | .builtin .len => if c.args.size = 1 then prun P (Builtin.len_ c.argTypes o.type #[sv ts (c.args.getD 0 default)]) else none
      | .builtin .min => if c.args.toList.all fun x => closed 4 (sv ts x) then okClo (prun P (Builtin.min_ c.argTypes o.type (c.args.map (sv ts)))) else none
      | .builtin .max => if c.args.toList.all fun x => closed 4 (sv ts x) then okClo (prun P (Builtin.max_ c.argTypes o.type (c.args.map (sv ts)))) else none
      | _ => none
    | _ => none
  else none

section
variable {P : Program} {g : Gm} {ts : List Value} {a : Act}

theorem vrun {s : Sem Value} {v : Value} (h : prun P s = some v) (w : World) : (do pure (Next.value (← s)) : Sem Next).run P w = .ok (.value v) w := by
  refine prun_run ?_ w
  rw [prun_bind, h]; rfl

theorem arrayAt_pr {v v' : Value} (h : VR g v v') (t : TypeId) : PR P (VR g) (Instr.arrayAt t v) (Instr.arrayAt t v') := by
  unfold Instr.arrayAt
  refine .bind_eq fun d => ?_
  cases d with
  | array n e =>
    simp only []
    cases v with
    | slice s l c =>
      cases s with
      | none =>
        rw [h.slice_nil]
        simp only []
        split
        · exact .nothing (prun_runtimePanic _)
        · exact .pure (.closed (n := 1) rfl)
      | some s =>
        obtain ⟨r, o, sp⟩ := s
        obtain ⟨rfl, nm, hn, rfl, _⟩ := h.slice_inv
        simp only []
        split
        · exact .nothing (prun_runtimePanic _)
        · exact .pure (.ptr hn)
    | _ => exact .nothing rfl
  | _ => exact .nothing rfl

theorem map_sv (h : LR g ts a.tmps.toList) {xs : Array Operand} (hx : ∀ x ∈ xs.toList, VR g (sv ts x) (a.eval x)) : LR g (xs.map (sv ts)).toList (xs.map a.eval).toList :=
  ⟨by simp, fun i v v' e e' => by
    simp only [Array.toList_map, List.getElem?_map, Option.map_eq_some_iff] at e e'
    obtain ⟨x, hx1, rfl⟩ := e
    obtain ⟨y, hy1, rfl⟩ := e'
    rw [hx1] at hy1; cases hy1
    exact hx _ (List.mem_of_getElem? hx1)⟩

theorem l2_parts : ∀ (l : List (Nat × Operand)), (∀ x ∈ l.map (·.2), VR g (sv ts x) (a.eval x)) → L2 (fun p q => p.1 = q.1 ∧ VR g p.2 q.2) (l.map fun (i, x) => (i, sv ts x)) (l.map fun (i, x) => (i, a.eval x))
  | [], _ => .nil
  | p :: l, h => .cons ⟨rfl, h _ (by simp)⟩ (l2_parts l fun x hx => h x (by simp at hx ⊢; exact .inr hx))

theorem opr_map {o : Option Operand} (h : ∀ x ∈ o.toArray.toList, VR g (sv ts x) (a.eval x)) : OpR g (o.map (sv ts)) (o.map a.eval) := by
  cases o with
  | none => exact .none
  | some x => exact .some (h x (by simp))

theorem pVal_ok {N : Nat} (hz : ZC P N) (ht : LR g ts a.tmps.toList) {o : Oper} {v : Value} (e : pVal P N ts o = some v) : ∃ v', VR g v v' ∧ ∀ w, (execOp a.eval o).run P w = .ok (.value v') w := by
  obtain ⟨dst, op, ty, pos, after, guard⟩ := o
  unfold pVal at e
  split at e
  case isFalse => cases e
  rename_i hall
  have K : ∀ x ∈ op.operands.toList, VR g (sv ts x) (a.eval x) := fun x hx => sv_ok ht hall hx
  have fin : ∀ {s s' : Sem Value}, PR P (VR g) s s' → prun P s = some v → (∀ w, (execOp a.eval ⟨dst, op, ty, pos, after, guard⟩).run P w = (do pure (Next.value (← s')) : Sem Next).run P w) → ∃ v', VR g v v' ∧ ∀ w, (execOp a.eval ⟨dst, op, ty, pos, after, guard⟩).run P w = .ok (.value v') w := fun h e hh => by
    obtain ⟨v', x, y⟩ := h v e
    exact ⟨v', y, fun w => by rw [hh, vrun x]⟩
  have finC : ∀ {s' : Sem Value}, okClo (prun P s') = some v → (∀ w, (execOp a.eval ⟨dst, op, ty, pos, after, guard⟩).run P w = (do pure (Next.value (← s')) : Sem Next).run P w) → ∃ v', VR g v v' ∧ ∀ w, (execOp a.eval ⟨dst, op, ty, pos, after, guard⟩).run P w = .ok (.value v') w := fun e hh => by
    obtain ⟨x, y⟩ := okClo_some e
    exact ⟨v, .closed y, fun w => by rw [hh, vrun x]⟩
  cases op with
  | move x => cases e; exact ⟨_, K x (by simp [Op.operands]), fun w => rfl⟩
  | assign x => cases e; exact ⟨_, K x (by simp [Op.operands]), fun w => rfl⟩
  | pick c x y =>
    have hc := K c (by simp [Op.operands])
    have hx := K x (by simp [Op.operands])
    have hy := K y (by simp [Op.operands])
    simp only [] at e
    split at e
    · rename_i t hs
      cases e
      rw [hs] at hc
      refine ⟨if t then a.eval x else a.eval y, by split <;> assumption, fun w => ?_⟩
      simp only [execOp, hc.bool_inv, asBool]
      rfl
    · cases e
  | nilCheck x =>
    have hx := K x (by simp [Op.operands])
    simp only [] at e
    split at e
    · rename_i p hs
      cases e
      rw [hs] at hx
      obtain ⟨r, q, s⟩ := p
      obtain ⟨rfl, nm, hn, h2⟩ := hx.ptr_inv
      refine ⟨_, hx, fun w => ?_⟩
      simp only [execOp, h2]
      rfl
    · rename_i t u hs
      cases e
      rw [hs] at hx
      obtain ⟨u', h2, h3⟩ := hx.iface_inv
      refine ⟨_, hx, fun w => ?_⟩
      simp only [execOp, h2]
      rfl
    · rename_i f b c hs
      cases e
      rw [hs] at hx
      have : ∃ b' c', a.eval x = .func (.func f) b' c' := by
        generalize a.eval x = z at hx
        cases hx <;> exact ⟨_, _, rfl⟩
      obtain ⟨b', c', h2⟩ := this
      refine ⟨_, hx, fun w => ?_⟩
      simp only [execOp, h2]
      rfl
    · cases e
  | binOp bo t x y yt =>
    have hx := K x (by simp [Op.operands])
    have hy := K y (by simp [Op.operands])
    simp only [] at e
    split at e
    · rename_i hc
      rw [Bool.and_eq_true] at hc
      rw [← hx.eq_of_closed hc.1, ← hy.eq_of_closed hc.2] at e
      exact finC e fun w => rfl
    · obtain ⟨h1, h2⟩ := eqNil_ok hx hy bo t x y e
      exact ⟨v, .closed h2, fun w => vrun h1 w⟩
  | unOp uo t x =>
    have hx := K x (by simp [Op.operands])
    simp only [] at e
    split at e
    · rename_i hc
      rw [← hx.eq_of_closed hc] at e
      exact finC e fun w => rfl
    · cases e
  | convert s d x =>
    have hx := K x (by simp [Op.operands])
    simp only [] at e
    split at e
    · rename_i hc
      rw [← hx.eq_of_closed hc] at e
      exact finC e fun w => rfl
    · cases e
  | sliceToArrayPointer arr x => exact fin (arrayAt_pr (K x (by simp [Op.operands])) _) e fun w => rfl
  | makeInterface t x => exact fin (makeInterface_pr (K x (by simp [Op.operands])) _) e fun w => rfl
  | makeFunc fn first captured =>
    cases fn with
    | func f =>
      simp only [] at e
      split at e
      · rename_i h0
        cases e
        have : first = #[] := Array.eq_empty_of_size_eq_zero h0
        subst this
        refine ⟨.func (.func f) #[] (captured.map a.eval), ?_, fun w => by simp [execOp, Instr.makeFunc]⟩
        have := map_sv ht (xs := captured) fun x hx => K x (by simp [Op.operands]; simpa using hx)
        exact .func this.toAgg.1 this.toAgg.2
      · cases e
    | _ => cases e
  | slice t x lo hi mx =>
    simp only [] at e
    obtain ⟨u', h1, h2⟩ := sliceS_ok (K x (by simp [Op.operands])) t (opr_map fun y hy => K y (by simp [Op.operands] at hy ⊢; simp [hy])) (opr_map fun y hy => K y (by simp [Op.operands] at hy ⊢; simp [hy])) (opr_map fun y hy => K y (by simp [Op.operands] at hy ⊢; simp [hy])) e
    exact ⟨u', h2, fun w => vrun h1 w⟩
  | fieldAddr s x f => exact fin (fieldAt_pr (K x (by simp [Op.operands])) _ _) e fun w => rfl
  | field s x f => exact fin (field_pr (K x (by simp [Op.operands])) _ _) e fun w => rfl
  | indexAddr t x ix => exact fin (indexAt_pr (K x (by simp [Op.operands])) (K ix (by simp [Op.operands])) _) e fun w => rfl
  | index t x ix => exact fin (index_pr (K x (by simp [Op.operands])) (K ix (by simp [Op.operands])) _) e fun w => rfl
  | extract x ix => exact fin (extract_pr (K x (by simp [Op.operands])) _) e fun w => rfl
  | typeAssert x xt t ok =>
    simp only [] at e
    split at e
    · exact fin (typeAssert_pr hz (K x (by simp [Op.operands])) xt t (by assumption) ok) e fun w => rfl
    · cases e
  | build t parts =>
    simp only [] at e
    split at e
    · refine fin (build_pr hz t (by assumption) ?_) e fun w => rfl
      have := l2_parts (g := g) (ts := ts) (a := a) parts.toList fun x hx => K x (by simpa [Op.operands] using hx)
      simpa using this
    · cases e
  | call c =>
    obtain ⟨callee, args, ats⟩ := c
    simp only [] at e
    have Ka : callee.casesOn (motive := fun _ => Prop) (fun _ => True) (fun _ _ => True) (fun _ => ∀ x ∈ args.toList, VR g (sv ts x) (a.eval x)) := by
      cases callee with
      | builtin b => intro x hx; exact K x (by simp [Op.operands, Call.operands]; simpa using hx)
      | _ => trivial
    cases callee with
    | builtin b =>
      have Ka : ∀ x ∈ args.toList, VR g (sv ts x) (a.eval x) := Ka
      cases b with
      | len =>
        simp only [] at e
        split at e
        · rename_i h1
          obtain ⟨x, rfl⟩ : ∃ x, args = #[x] := by
            obtain ⟨l⟩ := args
            match l, h1 with
            | [x], _ => exact ⟨x, rfl⟩
          exact fin (len_pr (Ka x (by simp)) _ _) e fun w => by simp [execOp, resolve, invoke, builtin]
        · cases e
      | min =>
        simp only [] at e
        split at e
        · rename_i hc
          have : args.map (sv ts) = args.map a.eval := by
            apply Array.map_congr_left
            intro x hx
            exact ((Ka x (by simpa using hx)).eq_of_closed (List.all_eq_true.1 hc x (by simpa using hx))).symm
          rw [this] at e
          exact finC e fun w => rfl
        · cases e
      | max =>
        simp only [] at e
        split at e
        · rename_i hc
          have : args.map (sv ts) = args.map a.eval := by
            apply Array.map_congr_left
            intro x hx
            exact ((Ka x (by simpa using hx)).eq_of_closed (List.all_eq_true.1 hc x (by simpa using hx))).symm
          rw [this] at e
          exact finC e fun w => rfl
        · cases e
      | _ => cases e
    | _ => cases e
  | _ => cases e
end
end Go.Proofs.Ytckejldjoajpgaa
