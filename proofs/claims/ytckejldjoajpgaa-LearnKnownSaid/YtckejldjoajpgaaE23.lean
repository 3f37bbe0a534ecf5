/- A faster run of the shadow: the compiled forms of operations. Nothing of the program. -/
import Derived.Test.YtckejldjoajpgaaE22
namespace Go.Proofs.Ytckejldjoajpgaa
open Go
set_option linter.all false

inductive CK where
  | mv (x : CX)
  | pick (c a b : CX)
  | fadd (x : CX) (k : Nat)
  | ext (x : CX) (i : Nat)
  | iop (op : BinOp) (x y : CX)
  | idx (x i : CX) (sz : Nat)
  | ld1 (x : CX)
  | ldn (x : CX) (n : Nat)
  | box (t : TypeId) (x : CX)
  | alloc (t : TypeId) (z : List Value)
  | st (a v : CX) (n : Nat)
  | nxt (it : CX)
  | call (f : FuncId) (args : List CX)
  | callv (f : CX) (args : List CX)
  | slow

/-- How far a field lies. -/
def faddK (P : Program) (s : TypeId) (f : Nat) : Option Nat := match prun P (underlying s) with
  | some (.struct fields) => match fields[f]? with
    | some fl => match prun P (sizeOf fl.type) with
      | some (_ + 1) => some fl.offset
      | _ => none
    | none => none
  | _ => none

def elemK (P : Program) (t : TypeId) : Option Nat := match prun P (underlying t) with
  | some (.slice e) => prun P (sizeOf e)
  | _ => none

/-- The compiled form. -/
def ckOf (P : Program) (N : Nat) (o : Op) : CK := match o with
  | .move x | .assign x => match cx x with
    | some c => .mv c
    | none => .slow
  | .pick c a b => match cx c, cx a, cx b with
    | some c, some a, some b => .pick c a b
    | _, _, _ => .slow
  | .fieldAddr s x f => match cx x, faddK P s f with
    | some c, some k => .fadd c k
    | _, _ => .slow
  | .extract x i => match cx x with
    | some c => .ext c i
    | none => .slow
  | .binOp op t x y _ => match cx x, cx y, prun P (underlying t) with
    | some a, some b, some (.int _) => (match op with
      | .add | .sub | .mul | .eql | .neq | .lss | .leq | .gtr | .geq => .iop op a b
      | _ => .slow)
    | _, _, _ => .slow
  | .indexAddr t x i => match cx x, cx i, elemK P t with
    | some a, some b, some n => .idx a b n
    | _, _, _ => .slow
  | .load t x => match cx x, prun P (isAgg t), prun P (sizeOf t) with
    | some a, some true, some n => .ldn a n
    | some a, some false, _ => .ld1 a
    | _, _, _ => .slow
  | .box t x => match cx x with
    | some c => .box t c
    | none => .slow
  | .alloc t => if t < N then (match prun P (zeroValue t) with
    | some z => .alloc t z.cells.toList
    | none => .slow) else .slow
  | .store t a x => match cx a, cx x, prun P (sizeOf t) with
    | some a, some v, some n => .st a v n
    | _, _, _ => .slow
  | .next it true => match cx it with
    | some c => .nxt c
    | none => .slow
  | .call c => match c.callee with
    | .value (.func f) => if (fnOf P f).isSome then (match cxs c.args.toList with
      | some l => .call f l
      | none => .slow) else .slow
    | .value f => match cx f, cxs c.args.toList with
      | some f, some l => .callv f l
      | _, _ => .slow
    | _ => .slow
  | _ => .slow

def iopV (op : BinOp) (k : IntKind) (a b : Int) : Option Value := match op with
  | .add => some (.int k (k.wrap (a + b)))
  | .sub => some (.int k (k.wrap (a - b)))
  | .mul => some (.int k (k.wrap (a * b)))
  | .eql => some (.bool (a == b))
  | .neq => some (.bool (a != b))
  | .lss => some (.bool (a < b))
  | .leq => some (.bool (a ≤ b))
  | .gtr => some (.bool (a > b))
  | .geq => some (.bool (a ≥ b))
  | _ => none

/-- Of those that ask no memory. -/
noncomputable def ckP (ck : CK) (t : Tr Value) : Option Value := match ck with
  | .mv x => x.get t
  | .pick c a b => match c.get t, a.get t, b.get t with
    | some (.bool q), some v, some u => some (if q then v else u)
    | _, _, _ => none
  | .fadd x k => match x.get t with
    | some (.pointer (some ⟨b, o, none⟩)) => some (.pointer (some ⟨b, o + k, none⟩))
    | _ => none
  | .ext x i => match x.get t with
    | some (.tuple vs) => lget vs.toList i
    | _ => none
  | .iop op x y => match x.get t, y.get t with
    | some (.int k a), some (.int k' b) => if k = k' then iopV op k a b else none
    | _, _ => none
  | .idx x i sz => match x.get t, i.get t with
    | some (.slice (some ⟨b, o, none⟩) l _), some (.int _ j) => if 0 ≤ j ∧ j < l then some (.pointer (some ⟨b, o + j.toNat * sz, none⟩)) else none
    | _, _ => none
  | _ => none

noncomputable def cellAt (S : SH) (r o : Nat) : Option Value := match hget S r with
  | some (.cells c _) => lget c o
  | some (.row c _ _) => lget c o
  | _ => none
noncomputable def cutAt (S : SH) (r o n : Nat) : Option (List Value) := match hget S r with
  | some (.cells c _) => lcut c o n
  | some (.row c _ _) => lcut c o n
  | _ => none

/-- Of those that read. -/
noncomputable def ckQ (ck : CK) (t : Tr Value) (S : SH) : Option Value := match ck with
  | .ld1 x => match x.get t with
    | some (.pointer (some ⟨r, o, none⟩)) => cellAt S r o
    | _ => none
  | .ldn x n => match x.get t with
    | some (.pointer (some ⟨r, o, none⟩)) => match cutAt S r o n with
      | some cs => some (.agg cs.toArray)
      | none => none
    | _ => none
  | _ => none

/-- Of those that lay a block. -/
noncomputable def ckA (ck : CK) (t : Tr Value) (fr : Nat) : Option (Value × SO) := match ck with
  | .box ty x => match x.get t with
    | some v => some (.pointer (some ⟨fr, 0, none⟩), .cells v.cells.toList ty)
    | none => none
  | .alloc ty z => some (.pointer (some ⟨fr, 0, none⟩), .cells z ty)
  | _ => none

def allOne : List Value → Bool
  | [] => true
  | v :: r => v.oneCell' && allOne r
theorem allOne_eq (l : List Value) : allOne l = l.all (·.oneCell') := by
  induction l with
  | nil => rfl
  | cons v r ih => simp only [allOne, List.all_cons, ih]

/-- Of those that write. -/
noncomputable def ckM (ck : CK) (t : Tr Value) (S : SH) : Option (Value × SH) := match ck with
  | .st a v n => match a.get t, v.get t with
    | some (.pointer (some ⟨r, q, none⟩)), some u =>
      let vs := u.cells.toList
      if Nat.beq vs.length n && allOne vs then
        match hget S r with
        | some (.cells k ty) => match lset k q vs with
          | some k' => some (undef, hset S r (.cells k' ty))
          | none => none
        | some (.row k ty sz) => match lset k q vs with
          | some k' => some (undef, hset S r (.row k' ty sz))
          | none => none
        | _ => none
      else none
    | _, _ => none
  | .nxt it => match it.get t with
    | some v => nextS S v true
    | none => none
  | _ => none

/-- Of those that call. -/
noncomputable def ckC (P : Program) (ck : CK) (t : Tr Value) : Option (FuncId × List Value) := match ck with
  | .call f args => match getAll t args with
    | some vs => some (f, vs)
    | none => none
  | .callv f args => match f.get t, getAll t args with
    | some (.func (.func fid) first captured), some vs => if Nat.beq first.toList.length 0 && (fnOf P fid).isSome then some (fid, vs ++ captured.toList) else none
    | _, _ => none
  | _ => none

section
variable {P : Program} {N n : Nat} {ts : List Value} {t : Tr Value} {S : SH}

theorem allS_of {o : Op} (h : ∀ x ∈ o.operands.toList, (opnd ts x).isSome = true) : allS ts o = true := List.all_eq_true.2 h

theorem closed_bool (b : Bool) : closed 4 (.bool b) = true := rfl
theorem closed_int (k : IntKind) (a : Int) : closed 4 (.int k a) = true := rfl

theorem prun_iop {op : BinOp} {ty : TypeId} {x y : Operand} {k : IntKind} {a b : Int} {v : Value} (h : iopV op k a b = some v) :
    okClo (prun P (do eqGuard op ty x y (.int k a) (.int k b); binOp op ty (.int k a) (.int k b))) = some v := by
  cases op <;> simp only [iopV] at h <;> cases h <;> simp [eqGuard, binOp, Op.intArith, Op.intCmp, prun_bind, prun, okClo, closed, Pure.pure]

/-- Those that ask no memory. -/
theorem ckP_ok (hT : TL n ts t) {o : Oper} {v : Value} (h : ckP (ckOf P N o.op) t = some v) : pVal P N ts o = some v := by
  obtain ⟨dst, op, ty, pos, after, guard⟩ := o
  simp only at h
  unfold ckOf at h
  split at h
  · rename_i x
    split at h
    case h_2 => cases h
    rename_i c hc
    have hx := cx_ok hT hc h
    simp only [pVal]
    rw [if_pos (allS_of fun z hz => by simp [Op.operands] at hz; subst hz; simp [hx]), sv_of hx]
  · rename_i x
    split at h
    case h_2 => cases h
    rename_i c hc
    have hx := cx_ok hT hc h
    simp only [pVal]
    rw [if_pos (allS_of fun z hz => by simp [Op.operands] at hz; subst hz; simp [hx]), sv_of hx]
  · rename_i c a b
    split at h
    case h_2 => cases h
    rename_i c1 a1 b1 hc ha hb
    simp only [ckP] at h
    split at h
    case h_2 => cases h
    rename_i q u w h1 h2 h3
    have k1 := cx_ok hT hc h1
    have k2 := cx_ok hT ha h2
    have k3 := cx_ok hT hb h3
    simp only [pVal]
    rw [if_pos (allS_of fun z hz => by simp [Op.operands] at hz; rcases hz with rfl | rfl | rfl <;> simp [*]), sv_of k1, sv_of k2, sv_of k3]
    exact h
  · rename_i s x f
    split at h
    case h_2 => cases h
    rename_i c k hc hk
    simp only [ckP] at h
    split at h
    case h_2 => cases h
    rename_i b q hx
    cases h
    have k1 := cx_ok hT hc hx
    simp only [pVal]
    rw [if_pos (allS_of fun z hz => by simp [Op.operands] at hz; subst hz; simp [k1]), sv_of k1]
    unfold faddK at hk
    split at hk
    case h_2 => cases hk
    rename_i fields hu
    split at hk
    case h_2 => cases hk
    rename_i fl hf
    split at hk
    case h_2 => cases hk
    rename_i m hm
    cases hk
    unfold Instr.fieldAt
    rw [prun_bind, hu]
    simp only [Option.bind, hf, Instr.sureAddr]
    rw [prun_bind]
    simp only [Pure.pure, prun, Option.bind]
    unfold fieldPlace
    rw [prun_bind, prun_bind, hm]
    simp [Option.bind, Pure.pure, prun, add_none]
  · rename_i x i
    split at h
    case h_2 => cases h
    rename_i c hc
    simp only [ckP] at h
    split at h
    case h_2 => cases h
    rename_i vs hx
    have k1 := cx_ok hT hc hx
    simp only [pVal]
    rw [if_pos (allS_of fun z hz => by simp [Op.operands] at hz; subst hz; simp [k1]), sv_of k1]
    rw [lget_eq] at h
    have h : vs[i]? = some v := by simpa using h
    simp only [Instr.extract, h]
    rfl
  · rename_i op0 ty0 x y yt
    split at h
    case h_2 => cases h
    rename_i a b k0 ha hb hu
    have h2 : ckP (.iop op0 a b) t = some v := by
      split at h <;> first | exact h | cases h
    simp only [ckP] at h2
    split at h2
    case h_2 => cases h2
    rename_i k p k' q h3 h4
    split at h2
    case isFalse => cases h2
    rename_i hkk
    subst hkk
    have k1 := cx_ok hT ha h3
    have k2 := cx_ok hT hb h4
    simp only [pVal]
    rw [if_pos (allS_of fun z hz => by simp [Op.operands] at hz; rcases hz with rfl | rfl <;> simp [*]), sv_of k1, sv_of k2]
    simp only [closed_int, Bool.and_self, if_true]
    exact prun_iop h2
  · rename_i ty0 x i
    split at h
    case h_2 => cases h
    rename_i a b sz ha hb hk
    simp only [ckP] at h
    split at h
    case h_2 => cases h
    rename_i r q l c kk j h3 h4
    split at h
    case isFalse => cases h
    rename_i hj
    cases h
    have k1 := cx_ok hT ha h3
    have k2 := cx_ok hT hb h4
    simp only [pVal]
    rw [if_pos (allS_of fun z hz => by simp [Op.operands] at hz; rcases hz with rfl | rfl <;> simp [*]), sv_of k1, sv_of k2]
    unfold elemK at hk
    split at hk
    case h_2 => cases hk
    rename_i e hu
    unfold Instr.indexAt
    simp [asIntOf, prun_bind, prun, Pure.pure, hu, hj, hk, add_none]
  · split at h <;> cases h
  · split at h <;> cases h
  · split at h
    · split at h <;> cases h
    · cases h
  · split at h <;> cases h
  · split at h <;> cases h
  · split at h
    · split at h
      · split at h <;> cases h
      · cases h
    · split at h <;> cases h
    · cases h
  · cases h

theorem pVal_none_load {ty0 : TypeId} {x : Operand} {dst ty pos after guard} : pVal P N ts ⟨dst, .load ty0 x, ty, pos, after, guard⟩ = none := by
  unfold pVal; split <;> rfl
theorem pVal_none_box {ty0 : TypeId} {x : Operand} {dst ty pos after guard} : pVal P N ts ⟨dst, .box ty0 x, ty, pos, after, guard⟩ = none := by
  unfold pVal; split <;> rfl
theorem qVal_none_box {ty0 : TypeId} {x : Operand} {dst ty pos after guard} : qVal P N S ts ⟨dst, .box ty0 x, ty, pos, after, guard⟩ = none := by
  unfold qVal; split <;> rfl
theorem pVal_none_alloc {ty0 : TypeId} {dst ty pos after guard} : pVal P N ts ⟨dst, .alloc ty0, ty, pos, after, guard⟩ = none := by
  unfold pVal; split <;> rfl
theorem qVal_none_alloc {ty0 : TypeId} {dst ty pos after guard} : qVal P N S ts ⟨dst, .alloc ty0, ty, pos, after, guard⟩ = none := by
  unfold qVal; split <;> rfl
theorem pVal_none_store {ty0 : TypeId} {x y : Operand} {dst ty pos after guard} : pVal P N ts ⟨dst, .store ty0 x y, ty, pos, after, guard⟩ = none := by
  unfold pVal; split <;> rfl
theorem qVal_none_store {ty0 : TypeId} {x y : Operand} {dst ty pos after guard} : qVal P N S ts ⟨dst, .store ty0 x y, ty, pos, after, guard⟩ = none := by
  unfold qVal; split <;> rfl
theorem aVal_none_store {fr : Nat} {ty0 : TypeId} {x y : Operand} {dst ty pos after guard} : aVal P N fr ts ⟨dst, .store ty0 x y, ty, pos, after, guard⟩ = none := by
  unfold aVal; split <;> rfl
theorem pVal_none_next {x : Operand} {b : Bool} {dst ty pos after guard} : pVal P N ts ⟨dst, .next x b, ty, pos, after, guard⟩ = none := by
  unfold pVal; split <;> rfl
theorem qVal_none_next {x : Operand} {b : Bool} {dst ty pos after guard} : qVal P N S ts ⟨dst, .next x b, ty, pos, after, guard⟩ = none := by
  unfold qVal; split <;> rfl
theorem aVal_none_next {fr : Nat} {x : Operand} {b : Bool} {dst ty pos after guard} : aVal P N fr ts ⟨dst, .next x b, ty, pos, after, guard⟩ = none := by
  unfold aVal; split <;> rfl
theorem pVal_none_call {f : Operand} {args ats} {dst ty pos after guard} : pVal P N ts ⟨dst, .call ⟨.value f, args, ats⟩, ty, pos, after, guard⟩ = none := by
  unfold pVal; split <;> rfl
theorem qVal_none_call {f : Operand} {args ats} {dst ty pos after guard} : qVal P N S ts ⟨dst, .call ⟨.value f, args, ats⟩, ty, pos, after, guard⟩ = none := by
  unfold qVal; split <;> rfl
theorem aVal_none_call {fr : Nat} {f : Operand} {args ats} {dst ty pos after guard} : aVal P N fr ts ⟨dst, .call ⟨.value f, args, ats⟩, ty, pos, after, guard⟩ = none := by
  unfold aVal; split <;> rfl

theorem cutAt_ok {r o m : Nat} {cs : List Value} (h : cutAt S r o m = some cs) : cellsAt S r o m = some cs := by
  unfold cutAt at h
  rw [hget_eq] at h
  unfold cellsAt
  split at h
  · rename_i c ty hr
    obtain ⟨h1, h2⟩ := lcut_eq c o m h
    simp only [hr, if_pos h1, h2]
  · rename_i c ty sz hr
    obtain ⟨h1, h2⟩ := lcut_eq c o m h
    simp only [hr, if_pos h1, h2]
  · cases h

theorem cellAt_ok {r o : Nat} {v : Value} (h : cellAt S r o = some v) : cellsAt S r o 1 = some [v] := by
  have key : ∀ c : List Value, c[o]? = some v → o + 1 ≤ c.length ∧ (c.drop o).take 1 = [v] := fun c hc => by
    obtain ⟨hl, he⟩ := List.getElem?_eq_some_iff.1 hc
    refine ⟨hl, ?_⟩
    rw [List.drop_eq_getElem_cons hl, he]; rfl
  unfold cellAt at h
  rw [hget_eq] at h
  unfold cellsAt
  split at h
  · rename_i c ty hr
    rw [lget_eq] at h
    obtain ⟨h1, h2⟩ := key c h
    simp only [hr, if_pos h1, h2]
  · rename_i c ty sz hr
    rw [lget_eq] at h
    obtain ⟨h1, h2⟩ := key c h
    simp only [hr, if_pos h1, h2]
  · cases h

theorem ckQ_ok (hT : TL n ts t) {o : Oper} {v : Value} (h : ckQ (ckOf P N o.op) t S = some v) : pVal P N ts o = none ∧ qVal P N S ts o = some v := by
  obtain ⟨dst, op, ty, pos, after, guard⟩ := o
  simp only at h
  unfold ckOf at h
  split at h
  case h_8 =>
    rename_i ty0 x
    split at h
    · rename_i a m ha hg hs
      simp only [ckQ] at h
      split at h
      case h_2 => cases h
      rename_i r q hx
      split at h
      case h_2 => cases h
      rename_i cs hcs
      cases h
      have k1 := cx_ok hT ha hx
      refine ⟨pVal_none_load, ?_⟩
      simp only [qVal]
      rw [if_pos (allS_of fun z hz => by simp [Op.operands] at hz; subst hz; simp [k1]), sv_of k1]
      simp only [loadS, hg, hs, cutAt_ok hcs]
    · rename_i a m ha hg
      simp only [ckQ] at h
      split at h
      case h_2 => cases h
      rename_i r q hx
      have k1 := cx_ok hT ha hx
      refine ⟨pVal_none_load, ?_⟩
      simp only [qVal]
      rw [if_pos (allS_of fun z hz => by simp [Op.operands] at hz; subst hz; simp [k1]), sv_of k1]
      simp only [loadS, hg, cellAt_ok h]
    · cases h
  all_goals (repeat' (split at h)) <;> cases h

theorem ckA_ok (hT : TL n ts t) {fr : Nat} {o : Oper} {v : Value} {so : SO} (h : ckA (ckOf P N o.op) t fr = some (v, so)) : pVal P N ts o = none ∧ qVal P N S ts o = none ∧ aVal P N fr ts o = some (v, so) := by
  obtain ⟨dst, op, ty, pos, after, guard⟩ := o
  simp only at h
  unfold ckOf at h
  split at h
  case h_9 =>
    rename_i ty0 x
    split at h
    case h_2 => cases h
    rename_i c hc
    simp only [ckA] at h
    split at h
    case h_2 => cases h
    rename_i u hx
    cases h
    have k1 := cx_ok hT hc hx
    refine ⟨pVal_none_box, qVal_none_box, ?_⟩
    simp only [aVal]
    rw [if_pos (allS_of fun z hz => by simp [Op.operands] at hz; subst hz; simp [k1]), sv_of k1]
  case h_10 =>
    rename_i ty0
    split at h
    case isFalse => cases h
    rename_i hN
    split at h
    case h_2 => cases h
    rename_i z hz
    cases h
    refine ⟨pVal_none_alloc, qVal_none_alloc, ?_⟩
    simp only [aVal]
    rw [if_pos (allS_of fun z hz => by simp [Op.operands] at hz), if_pos hN, hz]
  all_goals (repeat' (split at h)) <;> cases h

theorem ckM_ok (hT : TL n ts t) {fr : Nat} {o : Oper} {v : Value} {S' : SH} (h : ckM (ckOf P N o.op) t S = some (v, S')) :
    pVal P N ts o = none ∧ qVal P N S ts o = none ∧ aVal P N fr ts o = none ∧ mVal P N S fr ts o = some (v, S') := by
  obtain ⟨dst, op, ty, pos, after, guard⟩ := o
  simp only at h
  unfold ckOf at h
  split at h
  case h_11 =>
    rename_i ty0 a x
    split at h
    case h_2 => cases h
    rename_i ca cv m ha hv hs
    simp only [ckM] at h
    split at h
    case h_2 => cases h
    rename_i r q u h1 h2
    split at h
    case isFalse => cases h
    rename_i hc
    simp only [Bool.and_eq_true] at hc
    obtain ⟨hlen, hone⟩ := hc
    have hlen := Nat.eq_of_beq_eq_true hlen
    rw [allOne_eq] at hone
    rw [hget_eq] at h
    have k1 := cx_ok hT ha h1
    have k2 := cx_ok hT hv h2
    refine ⟨pVal_none_store, qVal_none_store, aVal_none_store, ?_⟩
    simp only [mVal]
    rw [if_pos (allS_of fun z hz => by simp [Op.operands] at hz; rcases hz with rfl | rfl <;> simp [*]), sv_of k1, sv_of k2]
    simp only [storeS, hs]
    rw [if_pos (by simpa using hlen)]
    simp only [setS, hone, if_true]
    split at h
    · rename_i k ty1 hr
      split at h
      case h_2 => cases h
      rename_i k' hk'
      cases h
      obtain ⟨e1, e2⟩ := lset_eq k q _ hk'
      simp only [hr, if_pos e1, withUndef, hset_eq, e2]
    · rename_i k ty1 sz hr
      split at h
      case h_2 => cases h
      rename_i k' hk'
      cases h
      obtain ⟨e1, e2⟩ := lset_eq k q _ hk'
      simp only [hr, if_pos e1, withUndef, hset_eq, e2]
    · cases h
  case h_12 =>
    rename_i it
    split at h
    case h_2 => cases h
    rename_i c hc
    simp only [ckM] at h
    split at h
    case h_2 => cases h
    rename_i u hx
    have k1 := cx_ok hT hc hx
    refine ⟨pVal_none_next, qVal_none_next, aVal_none_next, ?_⟩
    simp only [mVal]
    rw [if_pos (allS_of fun z hz => by simp [Op.operands] at hz; subst hz; simp [k1]), sv_of k1]
    exact h
  all_goals (repeat' (split at h)) <;> cases h

theorem not_clone {f : FuncId} (h : (fnOf P f).isSome = true) : isClone P f = false := by
  obtain ⟨p, hp⟩ := Option.isSome_iff_exists.1 h
  obtain ⟨fn, c⟩ := p
  obtain ⟨h1, h2, _⟩ := fnOf_some hp
  simp [isClone, h1, h2]

theorem ckC_ok (hT : TL n ts t) {fr : Nat} {o : Oper} {f : FuncId} {args : List Value} (h : ckC P (ckOf P N o.op) t = some (f, args)) :
    pVal P N ts o = none ∧ qVal P N S ts o = none ∧ aVal P N fr ts o = none ∧ mVal P N S fr ts o = none ∧ callS P ts o = some (f, args) := by
  obtain ⟨dst, op, ty, pos, after, guard⟩ := o
  simp only at h
  unfold ckOf at h
  split at h
  case h_13 =>
    rename_i c
    obtain ⟨callee, as, ats⟩ := c
    simp only at h
    split at h
    · rename_i g
      split at h
      case isFalse => cases h
      rename_i hsome
      split at h
      case h_2 => cases h
      rename_i l hl
      simp only [ckC] at h
      split at h
      case h_2 => cases h
      rename_i vs hvs
      cases h
      obtain ⟨i1, i2⟩ := cxs_ok hT hl hvs
      have hall : allS ts (.call ⟨.value (.func f), as, ats⟩) = true := allS_of fun z hz => by
        simp [Op.operands, Call.operands] at hz
        rcases hz with rfl | hz
        · rfl
        · exact i1 z (by simpa using hz)
      refine ⟨pVal_none_call, qVal_none_call, aVal_none_call, ?_, ?_⟩
      · simp only [mVal, if_pos hall]
        have : sv ts (.func f) = .func (.func f) #[] #[] := rfl
        rw [this]
        simp only [not_clone hsome]
        simp
      · simp only [callS, if_pos hall]
        have : sv ts (.func f) = .func (.func f) #[] #[] := rfl
        rw [this]
        simp only [hsome]
        simp
        rw [← i2]
    · rename_i fo _
      split at h
      case h_2 => cases h
      rename_i cf l hcf hl
      simp only [ckC] at h
      split at h
      case h_2 => cases h
      rename_i fid first captured vs h1 hvs
      split at h
      case isFalse => cases h
      rename_i hcond
      cases h
      simp only [Bool.and_eq_true] at hcond
      obtain ⟨h0, hsome⟩ := hcond
      have h0 : first.size = 0 := by simpa using Nat.eq_of_beq_eq_true h0
      obtain ⟨i1, i2⟩ := cxs_ok hT hl hvs
      have k1 := cx_ok hT hcf h1
      have hall : allS ts (.call ⟨.value fo, as, ats⟩) = true := allS_of fun z hz => by
        simp [Op.operands, Call.operands] at hz
        rcases hz with rfl | hz
        · rw [k1]; rfl
        · exact i1 z (by simpa using hz)
      refine ⟨pVal_none_call, qVal_none_call, aVal_none_call, ?_, ?_⟩
      · simp only [mVal, if_pos hall]
        rw [sv_of k1]
        simp only [not_clone hsome]
        simp
      · simp only [callS, if_pos hall]
        rw [sv_of k1]
        simp only [h0, hsome]
        simp
        rw [← i2]
    · cases h
  all_goals (repeat' (split at h)) <;> cases h
end
end Go.Proofs.Ytckejldjoajpgaa
