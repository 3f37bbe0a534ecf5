/- Calls on the shadow; one operation, whatever it is. Nothing of the program. -/
import Derived.Test.YtckejldjoajpgaaE14
namespace Go.Proofs.Ytckejldjoajpgaa
open Go
set_option linter.all false

/-- Whom an operation calls, with what. -/
def callS (P : Program) (ts : List Value) (o : Oper) : Option (FuncId × List Value) :=
  if allS ts o.op then
    match o.op with
    | .call c => match c.callee with
      | .value f => match sv ts f with
        | .func (.func fid) first captured => if first.size = 0 ∧ (fnOf P fid).isSome then some (fid, (c.args.map (sv ts)).toList ++ captured.toList) else none
        | _ => none
      | .invoke recv name => match sv ts recv with
        | .iface t v => match methS P t v name with
          | some (fid, r) => if (fnOf P fid).isSome then some (fid, r :: (c.args.map (sv ts)).toList) else none
          | none => none
        | _ => none
      | _ => none
    | _ => none
  else none

section
variable {P : Program} {w0 w : World} {g : Gm} {S : SH} {ts : List Value} {a : Act}

theorem callS_ok (ht : LR g ts a.tmps.toList) {o : Oper} {f : FuncId} {args : List Value} (e : callS P ts o = some (f, args)) :
    ∃ args', LR g args args' ∧ ∀ w, (execOp a.eval o).run P w = .ok (.enter f args'.toArray) w := by
  obtain ⟨dst, op, ty, pos, after, guard⟩ := o
  unfold callS at e
  split at e
  case isFalse => cases e
  rename_i hall
  have K : ∀ x ∈ op.operands.toList, VR g (sv ts x) (a.eval x) := fun x hx => sv_ok ht hall hx
  cases op with
  | call c =>
    obtain ⟨callee, args0, ats⟩ := c
    simp only [] at e
    cases callee with
    | value fo =>
      have Ka : LR g (args0.map (sv ts)).toList (args0.map a.eval).toList := map_sv ht fun x hx => K x (by simp [Op.operands, Call.operands]; simp at hx; exact .inr hx)
      have hf := K fo (by simp [Op.operands, Call.operands])
      simp only [] at e
      split at e
      case h_2 => cases e
      rename_i fid first captured hs
      split at e
      case isFalse => cases e
      rename_i hc
      obtain ⟨h0, hen⟩ := hc
      cases e
      have : first = #[] := Array.eq_empty_of_size_eq_zero h0
      subst this
      rw [hs] at hf
      obtain ⟨c', hf2, hcl⟩ := hf.func_inv
      obtain ⟨p, hp⟩ := Option.isSome_iff_exists.1 hen
      obtain ⟨fn, cd⟩ := p
      obtain ⟨_, _, hcall⟩ := fnOf_some hp
      refine ⟨(args0.map a.eval).toList ++ c'.toList, Ka.append hcl, fun w => ?_⟩
      have : execOp a.eval ⟨dst, .call ⟨.value fo, args0, ats⟩, ty, pos, after, guard⟩ = callFunc f (((args0.map a.eval).toList ++ c'.toList).toArray) := by
        simp only [execOp, resolve, hf2, Deferred.ofValue, invoke]
        show callFunc f _ = callFunc f _
        congr 1
        apply Array.ext'
        simp
      rw [this, hcall]
    | invoke recv name =>
      have Ka : LR g (args0.map (sv ts)).toList (args0.map a.eval).toList := map_sv ht fun x hx => K x (by simp [Op.operands, Call.operands]; simp at hx; exact .inr hx)
      have hf := K recv (by simp [Op.operands, Call.operands])
      simp only [] at e
      split at e
      case h_2 => cases e
      rename_i t v hs
      split at e
      case h_2 => cases e
      rename_i fid r hm
      split at e
      case isFalse => cases e
      rename_i hen
      cases e
      rw [hs] at hf
      obtain ⟨v', hf2, hv⟩ := hf.iface_inv
      obtain ⟨r', hm2, hr⟩ := method_pr hv hm
      obtain ⟨p, hp⟩ := Option.isSome_iff_exists.1 hen
      obtain ⟨fn, cd⟩ := p
      obtain ⟨_, _, hcall⟩ := fnOf_some hp
      refine ⟨r' :: (args0.map a.eval).toList, .cons hr Ka, fun w => ?_⟩
      have : execOp a.eval ⟨dst, .call ⟨.invoke recv name, args0, ats⟩, ty, pos, after, guard⟩ = callMethod (.iface t v') name (args0.map a.eval) := by
        simp only [execOp, resolve, hf2]
        show invoke (.fn (.method name) #[]) (#[.iface t v'] ++ args0.map a.eval) = _
        unfold invoke
        have h0 : (#[Value.iface t v'] ++ args0.map a.eval)[0]? = some (.iface t v') := by simp [Array.getElem?_append]
        have h1 : (#[Value.iface t v'] ++ args0.map a.eval).extract 1 (#[Value.iface t v'] ++ args0.map a.eval).size = args0.map a.eval := by
          generalize args0.map a.eval = ar
          obtain ⟨l⟩ := ar
          apply Array.ext'
          rw [Array.toList_extract, List.extract_eq_take_drop]
          simp
        simp only [h0, h1]
      rw [this]
      unfold callMethod
      simp only []
      rw [run_pre (show prun P program = some P from rfl), run_pre hm2]
      simp only []
      rw [show (#[r'] ++ args0.map a.eval) = (r' :: (args0.map a.eval).toList).toArray by apply Array.ext'; simp]
      exact hcall _ _
    | _ => cases e
  | _ => cases e
end

/-- What a call gives: the value, memory, the next free name. -/
abbrev CallF := FuncId → List Value → SH → Nat → Option (Value × SH × Nat)

/-- That it is so. -/
def CallOk (P : Program) (call : CallF) : Prop := ∀ f args S d v S' d', call f args S d = some (v, S', d') → ∀ (w0 : World) (g : Gm) (w : World) (args' : List Value), Sim w0 g S w → LR g args args' →
  Calls P f args'.toArray w fun e w' => ∃ v' g', e = .returned v' ∧ g.le g' ∧ VR g' v v' ∧ Sim w0 g' S' w'

/-- One operation. -/
def evOp (P : Program) (N : Nat) (call : CallF) (fr d : Nat) (ts : List Value) (S : SH) (o : Oper) : Option (Value × SH × Nat) :=
  match pVal P N ts o with
  | some v => some (v, S, d)
  | none => match qVal P N S ts o with
    | some v => some (v, S, d)
    | none => match S.get fr with
      | some _ => none
      | none => match aVal P N fr ts o with
        | some (v, so) => some (v, S.set fr so, d)
        | none => match mVal P N S fr ts o with
          | some (v, S') => some (v, S', d)
          | none => match callS P ts o with
            | some (f, args) => call f args S d
            | none => none

section
variable {P : Program} {w0 w : World} {g : Gm} {S : SH} {ts : List Value} {a : Act}

theorem evOp_ok {N : Nat} (hz : ZC P N) {call : CallF} (hc : CallOk P call) (h : Sim w0 g S w) (ht : LR g ts a.tmps.toList) {fr d : Nat} {o : Oper} {v : Value} {S' : SH} {d' : Nat} (e : evOp P N call fr d ts S o = some (v, S', d'))
    {next : Act → World → Prop} {Q : Exit → Act → World → Prop} (hn : ∀ g' v' w', g.le g' → VR g' v v' → Sim w0 g' S' w' → next (a.put o.dst v') w') : o.wp P a w next Q := by
  unfold evOp at e
  unfold Oper.wp
  split at e
  · rename_i v1 hp
    cases e
    obtain ⟨v', h1, h2⟩ := pVal_ok hz ht hp
    rw [h2 w]
    exact hn g v' w g.le_refl h1 h
  split at e
  · rename_i v1 hp
    cases e
    obtain ⟨v', h1, h2⟩ := qVal_ok hz h ht hp
    rw [h2]
    exact hn g v' w g.le_refl h1 h
  split at e
  · cases e
  rename_i hfr
  split at e
  · rename_i v1 so hp
    cases e
    obtain ⟨v', x, w', h1, h2, h3, h4, h5⟩ := aVal_ok hz h ht hfr hp
    rw [h1]
    exact hn (g.put fr x) v' w' (Gm.le_put x (h.none_of hfr)) h5 (h.new h3 hfr h2 h4)
  split at e
  · rename_i v1 S1 hp
    cases e
    obtain ⟨g', v', n, w', h1, h2, h3, h4, h5, h6⟩ := mVal_ok hz h ht hfr hp
    rw [h1]
    rcases h2 with rfl | ⟨rfl, rfl⟩
    · exact hn g' v' w' h3 h4 h5
    · exact hn g' undef w' h3 h4 h5
  split at e
  case h_2 => cases e
  rename_i f args hp
  obtain ⟨args', h1, h2⟩ := callS_ok ht hp
  rw [h2 w]
  refine Calls.mono (hc f args S d v S' d' e w0 g w args' h h1) ?_
  rintro e2 w' ⟨v', g', rfl, h3, h4, h5⟩
  exact hn g' v' w' h3 h4 h5

/-- One operation that leaves as it is what stands. -/
def evOpA (P : Program) (N : Nat) (fr d : Nat) (ts : List Value) (S : SH) (o : Oper) : Option (Value × SH × Nat) :=
  match pVal P N ts o with
  | some v => some (v, S, d)
  | none => match qVal P N S ts o with
    | some v => some (v, S, d)
    | none => match S.get fr with
      | some _ => none
      | none => match aVal P N fr ts o with
        | some (v, so) => some (v, S.set fr so, d)
        | none => none

theorem evOpA_ok {N : Nat} (hz : ZC P N) (h : Sim w0 g S w) (ht : LR g ts a.tmps.toList) {fr d : Nat} {o : Oper} {v : Value} {S' : SH} {d' : Nat} (e : evOpA P N fr d ts S o = some (v, S', d'))
    {next : Act → World → Prop} {Q : Exit → Act → World → Prop} (hn : ∀ g' v' w', g.le g' → VR g' v v' → Sim w0 g' S' w' → Kn w w' → next (a.put o.dst v') w') : o.wp P a w next Q := by
  unfold evOpA at e
  unfold Oper.wp
  split at e
  · rename_i v1 hp
    cases e
    obtain ⟨v', h1, h2⟩ := pVal_ok hz ht hp
    rw [h2 w]
    exact hn g v' w g.le_refl h1 h (Kp.refl _ w)
  split at e
  · rename_i v1 hp
    cases e
    obtain ⟨v', h1, h2⟩ := qVal_ok hz h ht hp
    rw [h2]
    exact hn g v' w g.le_refl h1 h (Kp.refl _ w)
  split at e
  · cases e
  rename_i hfr
  split at e
  case h_2 => cases e
  rename_i v1 so hp
  cases e
  obtain ⟨v', x, w', h1, h2, h3, h4, h5⟩ := aVal_ok hz h ht hfr hp
  rw [h1]
  exact hn (g.put fr x) v' w' (Gm.le_put x (h.none_of hfr)) h5 (h.new h3 hfr h2 h4) h3
end
end Go.Proofs.Ytckejldjoajpgaa
