/- Operations that change memory, and calls, run on the shadow: one by one. Nothing of the program. -/
import Derived.Test.YtckejldjoajpgaaE13
import Derived.Laws.Externs
namespace Go.Proofs.Ytckejldjoajpgaa
open Go
set_option linter.all false

def withUndef : Option SH → Option (Value × SH)
  | some S => some (undef, S)
  | none => none

/-- maps.clone, that the model answers for. -/
def isClone (P : Program) (f : FuncId) : Bool := match P.funcs[f]? with
  | some fn => fn.body.isNone && fn.name == "maps.clone" && fn.origin == "maps.clone"
  | none => false

theorem find_clone (fn : Func) (h : fn.name = "maps.clone") : Extern.find fn = some Extern.MapsClone.clone := by
  obtain ⟨name, origin, targs, params, rts, nfree, ntmps, results, body, norace, ours, file, el, lit, met, tn⟩ := fn
  simp only at h
  subst h
  kernel_rfl

theorem findNext_clone (fn : Func) (h : fn.name = "maps.clone") (h2 : fn.origin = "maps.clone") : Extern.findNext fn = none := by
  obtain ⟨name, origin, targs, params, rts, nfree, ntmps, results, body, norace, ours, file, el, lit, met, tn⟩ := fn
  simp only at h h2
  subst h
  subst h2
  kernel_rfl

/-- An operation that changes memory. -/
def mVal (P : Program) (N : Nat) (S : SH) (fr : Nat) (ts : List Value) (o : Oper) : Option (Value × SH) :=
  if allS ts o.op then
    match o.op with
    | .store t a x => withUndef (storeS P S t (sv ts a) (sv ts x))
    | .mapUpdate t m k x | .insert t m k x => withUndef (updS P S t (sv ts m) (sv ts k) (sv ts x))
    | .mapEntry t m k => entryS P N S t (sv ts m) (sv ts k)
    | .entryStore t m s x => withUndef (entryStoreS S (sv ts m) (sv ts s) (sv ts x))
    | .next it str => nextS S (sv ts it) str
    | .call c => match c.callee with
      | .builtin .append => if c.args.size = 2 then appS P S fr c.argTypes (sv ts (c.args.getD 0 default)) (sv ts (c.args.getD 1 default)) else none
      | .builtin .delete => if c.args.size = 2 then (match c.argTypes[0]? with
        | some t => (match deleteS P S t (sv ts (c.args.getD 0 default)) (sv ts (c.args.getD 1 default)) with
          | some S' => some (.tuple #[], S')
          | none => none)
        | none => none) else none
      | .value f => match sv ts f with
        | .func (.func fid) first captured => if first.size = 0 ∧ captured.size = 0 ∧ c.args.size = 1 ∧ isClone P fid = true then (match sv ts (c.args.getD 0 default) with
          | .iface t (.map (some r)) => (match S.get r with
            | some (.map es clock) => some (.iface t (.map (some fr)), S.set fr (.map es clock))
            | _ => none)
          | _ => none) else none
        | _ => none
      | _ => none
    | _ => none
  else none

section
variable {P : Program} {w0 w : World} {g : Gm} {S : SH} {ts : List Value} {a : Act}

theorem withUndef_some {o : Option SH} {v : Value} {S' : SH} (h : withUndef o = some (v, S')) : v = undef ∧ o = some S' := by
  cases o with
  | none => cases h
  | some x => cases h; exact ⟨rfl, rfl⟩

/-- What an operation hands on. -/
def Gives (n : Next) (v : Value) : Prop := n = .value v ∨ (n = .skip ∧ v = undef)

theorem mVal_ok {N : Nat} (hz : ZC P N) (h : Sim w0 g S w) (ht : LR g ts a.tmps.toList) {fr : Nat} (hfr : S.get fr = none) {o : Oper} {v : Value} {S' : SH} (e : mVal P N S fr ts o = some (v, S')) :
    ∃ g' v' n w', (execOp a.eval o).run P w = .ok n w' ∧ Gives n v' ∧ g.le g' ∧ VR g' v v' ∧ Sim w0 g' S' w' ∧ w.heap.size ≤ w'.heap.size := by
  obtain ⟨dst, op, ty, pos, after, guard⟩ := o
  unfold mVal at e
  split at e
  case isFalse => cases e
  rename_i hall
  have K : ∀ x ∈ op.operands.toList, VR g (sv ts x) (a.eval x) := fun x hx => sv_ok ht hall hx
  have fin : ∀ {s : Sem Value} {v' : Value} {w' : World}, s.run P w = .ok v' w' → (do pure (Next.value (← s)) : Sem Next).run P w = .ok (.value v') w' := fun h => by rw [run_then h]; rfl
  have finU : ∀ {s : Sem Unit} {w' : World}, s.run P w = .ok () w' → (do s; pure Next.skip : Sem Next).run P w = .ok .skip w' := fun h => by rw [run_then h]; rfl
  have hu : VR g undef undef := .closed (n := 4) rfl
  cases op with
  | store t x y =>
    obtain ⟨hv0, e2⟩ := withUndef_some e
    subst hv0
    obtain ⟨w', h1, h2, h3⟩ := store_ok (P := P) h e2 (K x (by simp [Op.operands])) (K y (by simp [Op.operands]))
    exact ⟨g, undef, .skip, w', finU h1, .inr ⟨rfl, rfl⟩, g.le_refl, hu, h2, h3⟩
  | mapUpdate t m k x =>
    obtain ⟨hv0, e2⟩ := withUndef_some e
    subst hv0
    obtain ⟨w', h1, h2, h3⟩ := upd_ok (P := P) h e2 (K m (by simp [Op.operands])) (K k (by simp [Op.operands])) (K x (by simp [Op.operands]))
    exact ⟨g, undef, .skip, w', finU h1, .inr ⟨rfl, rfl⟩, g.le_refl, hu, h2, h3⟩
  | insert t m k x =>
    obtain ⟨hv0, e2⟩ := withUndef_some e
    subst hv0
    obtain ⟨w', h1, h2, h3⟩ := upd_ok (P := P) h e2 (K m (by simp [Op.operands])) (K k (by simp [Op.operands])) (K x (by simp [Op.operands]))
    exact ⟨g, undef, .skip, w', finU h1, .inr ⟨rfl, rfl⟩, g.le_refl, hu, h2, h3⟩
  | mapEntry t m k =>
    obtain ⟨v', w', h1, h2, h3, h4⟩ := entry_ok (P := P) hz h e (K m (by simp [Op.operands])) (K k (by simp [Op.operands]))
    exact ⟨g, v', .value v', w', fin h1, .inl rfl, g.le_refl, h2, h3, h4⟩
  | entryStore t m s x =>
    obtain ⟨hv0, e2⟩ := withUndef_some e
    subst hv0
    obtain ⟨w', h1, h2, h3⟩ := entryStore_ok (P := P) h (t := t) e2 (K m (by simp [Op.operands])) (K s (by simp [Op.operands])) (K x (by simp [Op.operands]))
    exact ⟨g, undef, .skip, w', finU h1, .inr ⟨rfl, rfl⟩, g.le_refl, hu, h2, h3⟩
  | next it str =>
    obtain ⟨v', w', h1, h2, h3, h4⟩ := next_ok (P := P) h (ty := ty) e (K it (by simp [Op.operands]))
    exact ⟨g, v', .value v', w', fin h1, .inl rfl, g.le_refl, h2, h3, h4⟩
  | call c =>
    obtain ⟨callee, args, ats⟩ := c
    simp only [] at e
    cases callee with
    | builtin b =>
      have Ka : ∀ x ∈ args.toList, VR g (sv ts x) (a.eval x) := fun x hx => K x (by simp [Op.operands, Call.operands]; simpa using hx)
      cases b with
      | append =>
        simp only [] at e
        split at e
        case isFalse => cases e
        rename_i h2
        obtain ⟨x, y, rfl⟩ : ∃ x y, args = #[x, y] := by
          obtain ⟨l⟩ := args
          match l, h2 with
          | [x, y], _ => exact ⟨x, y, rfl⟩
        obtain ⟨g', v', w', h1, h2, h3, h4, h5⟩ := app_ok (P := P) h hfr ty e (Ka x (by simp)) (Ka y (by simp))
        have : execOp a.eval ⟨dst, .call ⟨.builtin .append, #[x, y], ats⟩, ty, pos, after, guard⟩ = (do pure (Next.value (← Builtin.append_ ats ty #[a.eval x, a.eval y]))) := by simp [execOp, resolve, invoke, builtin]
        exact ⟨g', v', .value v', w', by rw [this]; exact fin h1, .inl rfl, h2, h3, h4, h5⟩
      | delete =>
        simp only [] at e
        split at e
        case isFalse => cases e
        rename_i h2
        obtain ⟨x, y, rfl⟩ : ∃ x y, args = #[x, y] := by
          obtain ⟨l⟩ := args
          match l, h2 with
          | [x, y], _ => exact ⟨x, y, rfl⟩
        split at e
        case h_2 => cases e
        rename_i t hat
        split at e
        case h_2 => cases e
        rename_i S2 hS2
        cases e
        obtain ⟨w', h1, h2, h3⟩ := delete_ok (P := P) h (ty := ty) hat hS2 (Ka x (by simp)) (Ka y (by simp))
        have : execOp a.eval ⟨dst, .call ⟨.builtin .delete, #[x, y], ats⟩, ty, pos, after, guard⟩ = (do pure (Next.value (← Builtin.delete_ ats ty #[a.eval x, a.eval y]))) := by simp [execOp, resolve, invoke, builtin]
        exact ⟨g, .tuple #[], .value (.tuple #[]), w', by rw [this]; exact fin h1, .inl rfl, g.le_refl, hu, h2, h3⟩
      | _ => cases e
    | value f =>
      have Ka : ∀ x ∈ args.toList, VR g (sv ts x) (a.eval x) := fun x hx => K x (by simp [Op.operands, Call.operands]; simp at hx; exact .inr hx)
      have hf := K f (by simp [Op.operands, Call.operands])
      simp only [] at e
      split at e
      case h_2 => cases e
      rename_i fid first captured hs
      split at e
      case isFalse => cases e
      rename_i hc
      obtain ⟨c1, c2, c3, c4⟩ := hc
      obtain rfl : first = #[] := Array.eq_empty_of_size_eq_zero c1
      obtain rfl : captured = #[] := Array.eq_empty_of_size_eq_zero c2
      obtain ⟨x, rfl⟩ : ∃ x, args = #[x] := by
        obtain ⟨l⟩ := args
        match l, c3 with
        | [x], _ => exact ⟨x, rfl⟩
      split at e
      case h_2 => cases e
      rename_i t r hx
      split at e
      case h_2 => cases e
      rename_i es clock hr
      cases e
      rw [hs] at hf
      have hf := hf.eq_of_closed (n := 4) (by simp [closed])
      have hx2 := Ka x (by simp)
      have hx : sv ts x = .iface t (.map (some r)) := hx
      rw [hx] at hx2
      obtain ⟨u, hu, hm⟩ := hx2.iface_inv
      obtain ⟨y, hy, rfl⟩ := hm.map_inv
      obtain ⟨y2, hy2, es', hb, hl⟩ := h.live r _ hr
      rw [hy] at hy2; cases hy2
      have gfr := h.none_of hfr
      have hcl : ∃ fn, P.funcs[fid]? = some fn ∧ fn.body.isNone = true ∧ fn.name = "maps.clone" ∧ fn.origin = "maps.clone" := by
        unfold isClone at c4
        split at c4
        · rename_i fn hfn
          simp only [Bool.and_eq_true, beq_iff_eq] at c4
          exact ⟨fn, hfn, c4.1.1, c4.1.2, c4.2⟩
        · cases c4
      obtain ⟨fn, q1, q2, q3, q4⟩ := hcl
      have run1 : (Extern.MapsClone.clone #[.iface t (.map (some y.b))]).run P w = .ok (.iface t (.map (some w.heap.size))) (w.alloc (.map es' clock)) := by
        have e1 : Extern.MapsClone.clone #[.iface t (.map (some y.b))] = (getObj y.b >>= fun o => match o with
            | .map entries clock => (newObj (.map entries clock) >>= fun n => pure (.iface t (.map (some n))))
            | _ => stuck "maps.clone: a map expected") := rfl
        rw [e1, run_then (run_getObj hb (by simp))]
        rfl
      have run2 : (execOp a.eval ⟨dst, .call ⟨.value f, #[x], ats⟩, ty, pos, after, guard⟩).run P w = .ok (.value (.iface t (.map (some w.heap.size)))) (w.alloc (.map es' clock)) := by
        have : execOp a.eval ⟨dst, .call ⟨.value f, #[x], ats⟩, ty, pos, after, guard⟩ = callFunc fid #[.iface t (.map (some y.b))] := by
          simp [execOp, resolve, hf, hu, Deferred.ofValue, invoke]
        rw [this, run_callFunc_extern q1 (by rw [q3]; rfl) q2 (findNext_clone fn q3 q4) (find_clone fn q3), run1]
        rfl
      refine ⟨g.put fr ⟨w.heap.size, 0, 0⟩, _, _, _, run2, .inl rfl, Gm.le_put _ gfr, .iface (.map (g.put_self fr ⟨w.heap.size, 0, 0⟩)), h.new ((Kp.refl _ w).alloc _) hfr (Nat.le_refl _) ⟨es', alloc_new w _, ?_⟩, by simp⟩
      exact hl.mono fun _ _ h => ⟨h.1, h.2.1, h.2.2.1, h.2.2.2.mono (Gm.le_put _ gfr)⟩
    | _ => cases e
  | _ => cases e

/-! ### Calls -/

def fnOf (P : Program) (f : FuncId) : Option (Func × Code) := match P.funcs[f]? with
  | some fn => if fn.name == "runtime.NumGoroutine" then none else (match fn.body with
    | some c => some (fn, c)
    | none => none)
  | none => none

theorem fnOf_some {f : FuncId} {fn : Func} {c : Code} (h : fnOf P f = some (fn, c)) : P.funcs[f]? = some fn ∧ fn.body = some c ∧ ∀ args w, (callFunc f args).run P w = .ok (.enter f args) w := by
  unfold fnOf at h
  split at h
  case h_2 => cases h
  rename_i fn' hf
  split at h
  case isTrue => cases h
  rename_i hn
  split at h
  case h_2 => cases h
  rename_i c' hb
  cases h
  refine ⟨hf, hb, fun args w => prun_run ?_ w⟩
  unfold callFunc
  rw [prun_bind]
  simp only [program, prun, Option.bind, hf]
  simp [hn, hb, Pure.pure, prun]

def isPtrD : TypeDesc → Bool
  | .pointer _ => true
  | _ => false

/-- The method behind an interface value. -/
def methS (P : Program) (t : TypeId) (v : Value) (name : String) : Option (FuncId × Value) :=
  match prun P (typeInfo t), prun P (underlying t) with
  | some i, some d => match i.methods.find? (·.name == name) with
    | some m => match m.func with
      | some (_, b) => if m.path.toList.all (fun s => !s.deref) && (b || (m.path.toList.isEmpty && !isPtrD d)) then prun P (Go.method (P.types.size + 99 + 1) t v name) else none
      | none => none
    | none => none
  | _, _ => none

def PlR (g : Gm) : Go.Place → Go.Place → Prop
  | .val v, .val v' => VR g v v'
  | _, _ => False

theorem follow_pr : ∀ (l : List FieldStep), l.all (fun s => !s.deref) = true → ∀ (t : TypeId) {v v' : Value}, VR g v v' → PR P (fun a b => a.1 = b.1 ∧ PlR g a.2 b.2) (Go.follow l t (.val v)) (Go.follow l t (.val v'))
  | [], _, t, v, v', h => .pure ⟨rfl, h⟩
  | s :: l, hd, t, v, v', h => by
    simp only [List.all_cons, Bool.and_eq_true] at hd
    unfold Go.follow
    refine .bind_eq fun d => ?_
    split
    · split
      · have : s.deref = false := by simpa using hd.1
        rw [this]
        simp only [Bool.false_eq_true, if_false]
        cases v with
        | agg c =>
          obtain ⟨c', rfl, hc⟩ := h.agg_inv
          exact .bind (part_pr hc _ _) fun a b hab => follow_pr l hd.2 _ hab
        | _ => exact .nothing rfl
      · exact .nothing rfl
    · exact .nothing rfl

theorem method_pr {t : TypeId} {v v' : Value} {name : String} (h : VR g v v') {f : FuncId} {r : Value} (e : methS P t v name = some (f, r)) :
    ∃ r', prun P (Go.method (P.types.size + Made.depth) t v' name) = some (f, r') ∧ VR g r r' := by
  show ∃ r', prun P (Go.method (P.types.size + 99 + 1) t v' name) = some (f, r') ∧ VR g r r'
  unfold methS at e
  split at e
  case h_2 => cases e
  rename_i i d hi hd
  split at e
  case h_2 => cases e
  rename_i m hm
  split at e
  case h_2 => cases e
  rename_i f0 b hfb
  split at e
  case isFalse => cases e
  rename_i hc
  simp only [Bool.and_eq_true, Bool.or_eq_true] at hc
  obtain ⟨hp, hb⟩ := hc
  have key : PR P (fun a b => a.1 = b.1 ∧ VR g a.2 b.2) (Go.method (P.types.size + 99 + 1) t v name) (Go.method (P.types.size + 99 + 1) t v' name) := by
    generalize P.types.size + 99 = fuel
    unfold Go.method
    intro x ex
    rw [prun_bind, hi] at ex ⊢
    simp only [Option.bind, hm, hfb] at ex ⊢
    rcases hb with hb | hb
    · subst hb
      refine (show PR P (fun (a b : FuncId × Value) => a.1 = b.1 ∧ VR g a.2 b.2) _ _ from ?_) x ex
      refine PR.bind (P := P) (follow_pr _ hp t h) (fun a b hab => ?_)
      obtain ⟨xt, pl⟩ := a
      obtain ⟨xt', pl'⟩ := b
      obtain ⟨h1, h2⟩ := hab
      simp only at h1 h2
      subst h1
      cases pl with
      | var _ => exact h2.elim
      | val u =>
        cases pl' with
        | var _ => exact h2.elim
        | val u' =>
          have h2 : VR g u u' := h2
          simp only []
          refine .bind (R := VR g) ?_ fun a b hab => .pure ⟨rfl, hab⟩
          unfold Go.receiverAt
          refine .bind_eq fun d => ?_
          cases d <;> first | exact .pure h2 | exact .nothing rfl
    · obtain ⟨h1, h2⟩ := hb
      have hnil : m.path.toList = [] := List.isEmpty_iff.1 h1
      have h2 : isPtrD d = false := by simpa using h2
      simp only [hnil, Go.follow] at ex ⊢
      cases b with
      | true =>
        refine (show PR P (fun (a b : FuncId × Value) => a.1 = b.1 ∧ VR g a.2 b.2) _ _ from ?_) x ex
        refine PR.bind (P := P) (R := fun a b => a = (t, Go.Place.val v) ∧ b = (t, Go.Place.val v')) (.pure ⟨rfl, rfl⟩) (fun a b hab => ?_)
        obtain ⟨rfl, rfl⟩ := hab
        simp only []
        refine .bind (R := VR g) ?_ fun a b hab => .pure ⟨rfl, hab⟩
        unfold Go.receiverAt
        refine .bind_eq fun d => ?_
        cases d <;> first | exact .pure h | exact .nothing rfl
      | false =>
        refine (show PR P (fun (a b : FuncId × Value) => a.1 = b.1 ∧ VR g a.2 b.2) _ _ from ?_) x ex
        refine PR.bind (P := P) (R := fun a b => a = (t, Go.Place.val v) ∧ b = (t, Go.Place.val v')) (.pure ⟨rfl, rfl⟩) (fun a b hab => ?_)
        obtain ⟨rfl, rfl⟩ := hab
        simp only []
        refine .bind (R := VR g) ?_ fun a b hab => .pure ⟨rfl, hab⟩
        unfold Go.receiverAt
        refine .bind (R := fun a b => a = d ∧ b = d) (fun a ea => by rw [hd] at ea; cases ea; exact ⟨d, hd, rfl, rfl⟩) fun a b hab => ?_
        obtain ⟨e1, e2⟩ := hab
        rw [e1, e2]
        cases d <;> first | exact .pure h | (simp [isPtrD] at h2)
  obtain ⟨⟨f', r'⟩, a1, a2, a3⟩ := key _ e
  simp only at a2 a3
  subst a2
  exact ⟨r', a1, a3⟩
end
end Go.Proofs.Ytckejldjoajpgaa
