/- Functions whose maps are ranged over: all ways at once; their results are the same. Nothing of the program. -/
import Derived.Test.YtckejldjoajpgaaE19
namespace Go.Proofs.Ytckejldjoajpgaa
open Go
set_option linter.all false

abbrev Out := SE × List Value × SH × Nat
abbrev StepL := List Value → SH → Nat → Option (List Out)

/-- Each of a list's, and on. -/
def onAll {α β : Type} (k : α → Option (List β)) : List α → Option (List β)
  | [] => some []
  | x :: r => match k x, onAll k r with
    | some a, some b => some (a ++ b)
    | _, _ => none

theorem onAll_mem {α β : Type} {k : α → Option (List β)} : ∀ {l : List α} {ys : List β}, onAll k l = some ys → ∀ x ∈ l, ∃ a, k x = some a ∧ ∀ y ∈ a, y ∈ ys
  | [], _, _, x, hx => by cases hx
  | x :: r, ys, h, z, hz => by
    simp only [onAll] at h
    split at h
    · rename_i a b ha hb
      cases h
      rcases List.mem_cons.1 hz with rfl | hz
      · exact ⟨a, ha, fun y hy => List.mem_append_left _ hy⟩
      · obtain ⟨c, h1, h2⟩ := onAll_mem hb z hz
        exact ⟨c, h1, fun y hy => List.mem_append_right _ (h2 y hy)⟩
    · cases h

/-- One operation, all ways. -/
def evOpL (P : Program) (N : Nat) (call : CallF) (fr d : Nat) (ts : List Value) (S : SH) (o : Oper) : Option (List (Value × SH × Nat)) :=
  match evOp P N call fr d ts S o with
  | some r => some [r]
  | none => match S.get fr with
    | some _ => none
    | none => match rangeM P S fr ts o with
      | some (v, so) => some [(v, S.set fr so, d)]
      | none => match nextO S ts o with
        | some l => some (l.map fun r => (r.1, r.2, d))
        | none => match entryO S ts o with
          | some v => some [(v, S, d)]
          | none => none

def evSeqL (P : Program) (N : Nat) (call : CallF) (ops : Array Oper) : List Oper → List Value → SH → Nat → Option (List Out)
  | [], ts, S, d => some [(.normal, ts, S, d)]
  | o :: rest, ts, S, d =>
    if Region.wanted o (yielded ops ts.toArray) then
      match evOpL P N call d (d + 1) ts S o with
      | some l => onAll (fun r => evSeqL P N call ops rest (putS ts o.dst r.1) r.2.1 r.2.2) l
      | none => none
    else evSeqL P N call ops rest (putS ts o.dst undef) S d

def thenL (k : StepL) : Out → Option (List Out)
  | (.normal, ts, S, d) => k ts S d
  | o => some [o]

def loopL (step : StepL) : Nat → StepL
  | 0 => fun _ _ _ => none
  | k + 1 => fun ts S d => match step ts S d with
    | some l => onAll (thenL (loopL step k)) l
    | none => none

def evCL (P : Program) (N : Nat) (call : CallF) (pl : Nat → Option Plan) (lf : Nat) : Code → StepL
  | .skip => fun ts S d => some [(.normal, ts, S, d)]
  | .region id ops draw => fun ts S d =>
    if draw then (match pl id with
      | some p => match evDraw P N call ops p ts S d with
        | some (ts', S', d') => some [(.normal, ts', S', d')]
        | none => none
      | none => none) else evSeqL P N call ops ops.toList ts S d
  | .seq x y => fun ts S d => match evCL P N call pl lf x ts S d with
    | some l => onAll (thenL (evCL P N call pl lf y)) l
    | none => none
  | .cond c x y => fun ts S d => match opnd ts c with
    | some (.bool true) => evCL P N call pl lf x ts S d
    | some (.bool false) => evCL P N call pl lf y ts S d
    | _ => none
  | .block id b => fun ts S d => match evCL P N call pl lf b ts S d with
    | some l => some (l.map fun o => match o with
      | (.exit i, r) => if i = id then (.normal, r) else (.exit i, r)
      | o => o)
    | none => none
  | .loop b => loopL (evCL P N call pl lf b) lf
  | .exit id => fun ts S d => some [(.exit id, ts, S, d)]
  | .ret => fun ts S d => some [(.ret, ts, S, d)]
  | _ => fun _ _ _ => none

section
variable {P : Program} {w0 : World}

/-- Whatever comes out, it is good. -/
def Good (w0 : World) (g : Gm) (Q : Exit → Act → World → Prop) (o : Out) : Prop :=
  ∀ g' a' w', g.le g' → Sim w0 g' o.2.2.1 w' → LR g' o.2.1 a'.tmps.toList → a'.defers = [] → Q o.1.to a' w'

theorem evOpL_ok {N : Nat} (hz : ZC P N) {call : CallF} (hc : CallOk P call) {w : World} {g : Gm} {S : SH} {ts : List Value} {a : Act} (h : Sim w0 g S w) (ht : LR g ts a.tmps.toList) {fr d : Nat} {o : Oper} {l : List (Value × SH × Nat)} (e : evOpL P N call fr d ts S o = some l)
    {next : Act → World → Prop} {Q : Exit → Act → World → Prop} (hn : ∀ r ∈ l, ∀ g' v' w', g.le g' → VR g' r.1 v' → Sim w0 g' r.2.1 w' → next (a.put o.dst v') w') : o.wp P a w next Q := by
  unfold evOpL at e
  split at e
  · rename_i r hr
    cases e
    obtain ⟨v, S', d'⟩ := r
    exact evOp_ok hz hc h ht hr fun g' v' w' => hn _ (List.mem_singleton.2 rfl) g' v' w'
  split at e
  · cases e
  rename_i hfr
  split at e
  · rename_i v so hr
    cases e
    obtain ⟨v', x, w', h1, h2, h3, h4, h5⟩ := rangeM_ok (P := P) h ht hfr hr
    unfold Oper.wp
    rw [h1]
    exact hn _ (List.mem_singleton.2 rfl) (g.put fr x) v' w' (Gm.le_put x (h.none_of hfr)) h5 (h.new h3 hfr h2 h4)
  split at e
  · rename_i l0 hl0
    cases e
    obtain ⟨dst, op, ty, pos, after, guard⟩ := o
    unfold nextO at hl0
    split at hl0
    case isFalse => cases hl0
    rename_i hall
    have K : ∀ x ∈ op.operands.toList, VR g (sv ts x) (a.eval x) := fun x hx => sv_ok ht hall hx
    cases op with
    | next it str =>
      cases str with
      | true => cases hl0
      | false =>
        simp only [] at hl0
        obtain ⟨r, hr, v', w', h1, h2, h3⟩ := nextL_ok (P := P) (ty := ty) h hl0 (K it (by simp [Op.operands]))
        have : (execOp a.eval ⟨dst, .next it false, ty, pos, after, guard⟩).run P w = .ok (.value v') w' := by
          simp only [execOp]
          rw [run_then h1]; rfl
        unfold Oper.wp
        rw [this]
        exact hn (r.1, r.2, d) (List.mem_map.2 ⟨r, hr, rfl⟩) g v' w' g.le_refl h2 h3
    | _ => cases hl0
  split at e
  · rename_i v hv
    cases e
    obtain ⟨v', h1, h2⟩ := entryO_ok (P := P) h ht hv
    unfold Oper.wp
    rw [h2]
    exact hn _ (List.mem_singleton.2 rfl) g v' w g.le_refl h1 h
  · cases e

theorem evSeqL_ok {N : Nat} (hz : ZC P N) {call : CallF} (hc : CallOk P call) {ops : Array Oper} {Q : Exit → Act → World → Prop} : ∀ (l : List Oper) {ts : List Value} {S : SH} {d : Nat} {os : List Out} {g : Gm} {a : Act} {w : World}, evSeqL P N call ops l ts S d = some os → Sim w0 g S w → LR g ts a.tmps.toList → a.defers = [] →
    (∀ o ∈ os, o.1 = .normal → Good w0 g Q o) → wpList P ops Q l a w
  | [], ts, S, d, os, g, a, w, e, h, ht, hd, hq => by cases e; exact hq _ (List.mem_singleton.2 rfl) rfl g a w g.le_refl h ht hd
  | o :: l, ts, S, d, os, g, a, w, e, h, ht, hd, hq => by
    unfold evSeqL at e
    unfold wpList
    rw [yielded_eq ht]
    split at e
    · rename_i hw
      rw [if_pos hw]
      split at e
      case h_2 => cases e
      rename_i l1 ho
      refine .inl (evOpL_ok hz hc h ht ho fun r hr g1 v' w1 hg hv hs => ?_)
      obtain ⟨os1, he1, hsub⟩ := onAll_mem e r hr
      exact evSeqL_ok hz hc l he1 hs (putS_ok (ht.mono hg) hv _) (by rw [put_defers]; exact hd) fun o ho hno g' a' w' h1 => hq o (hsub o ho) hno g' a' w' (Gm.le_trans hg h1)
    · rename_i hw
      rw [if_neg hw]
      exact evSeqL_ok hz hc l e h (putS_ok ht vr_undef _) (by rw [put_defers]; exact hd) hq

theorem evSeqL_normal {N : Nat} {call : CallF} {ops : Array Oper} : ∀ (l : List Oper) {ts : List Value} {S : SH} {d : Nat} {os : List Out}, evSeqL P N call ops l ts S d = some os → True := fun _ _ _ _ _ _ => trivial

theorem evCL_ok {N : Nat} (hz : ZC P N) (hm : P.follows .mixedOrders = true) {call : CallF} (hc : CallOk P call) {pl : Nat → Option Plan} {lf : Nat} : ∀ (c : Code) {Q : Exit → Act → World → Prop} {ts : List Value} {S : SH} {d : Nat} {os : List Out} {g : Gm} {a : Act} {w : World},
    codeOk pl c = true → evCL P N call pl lf c ts S d = some os → Sim w0 g S w → LR g ts a.tmps.toList → a.defers = [] → QP Q →
    (∀ o ∈ os, Good w0 g Q o) → c.wp P Q a w := by
  intro c
  induction c with
  | skip =>
    intro Q ts S d os g a w hp e h ht hd hQ hq
    cases e
    exact wp_skip (hq _ (List.mem_singleton.2 rfl) g a w g.le_refl h ht hd)
  | region id ops draw =>
    intro Q ts S d os g a w hp e h ht hd hQ hq
    simp only [evCL] at e
    cases draw with
    | true =>
      simp only [if_true] at e
      split at e
      case h_2 => cases e
      rename_i p hpl
      split at e
      case h_2 => cases e
      rename_i ts1 S1 d1 h1
      cases e
      have hfit : planFits ops p = true := by simpa [codeOk, hpl] using hp
      obtain ⟨l⟩ := ops
      exact evDraw_ok hz hm hc hfit hQ h1 h ht hd fun g' a' w' a1 a2 a3 a4 => hq _ (List.mem_singleton.2 rfl) g' a' w' a1 a2 a3 a4
    | false =>
      simp only [Bool.false_eq_true, if_false] at e
      exact wp_region_list (evSeqL_ok hz hc _ e h ht hd fun o ho _ => hq o ho)
  | seq a1 b1 iha ihb =>
    intro Q ts S d os g a w hp e h ht hd hQ hq
    simp only [codeOk, Bool.and_eq_true] at hp
    simp only [evCL] at e
    split at e
    case h_2 => cases e
    rename_i l1 h1
    refine wp_seq ?_
    refine iha hp.1 h1 h ht hd (fun c a d v w hh => hQ c a d v w hh) fun o ho g1 a' w1 hg hs hl hdf => ?_
    obtain ⟨os1, he1, hsub⟩ := onAll_mem e o ho
    obtain ⟨x, ts1, S1, d1⟩ := o
    cases x with
    | normal => exact ihb hp.2 he1 hs hl hdf hQ fun o ho g' a' w' h1 => hq o (hsub o ho) g' a' w' (Gm.le_trans hg h1)
    | exit id => cases he1; exact hq _ (hsub _ (List.mem_singleton.2 rfl)) g1 a' w1 hg hs hl hdf
    | ret => cases he1; exact hq _ (hsub _ (List.mem_singleton.2 rfl)) g1 a' w1 hg hs hl hdf
  | cond cd x1 y1 ihx ihy =>
    intro Q ts S d os g a w hp e h ht hd hQ hq
    simp only [codeOk, Bool.and_eq_true] at hp
    simp only [evCL] at e
    split at e
    · rename_i ho
      exact wp_cond_true (opnd_ok ht ho).bool_inv (ihx hp.1 e h ht hd hQ hq)
    · rename_i ho
      exact wp_cond_false (opnd_ok ht ho).bool_inv (ihy hp.2 e h ht hd hQ hq)
    · cases e
  | block id b ih =>
    intro Q ts S d os g a w hp e h ht hd hQ hq
    simp only [codeOk] at hp
    simp only [evCL] at e
    split at e
    case h_2 => cases e
    rename_i l1 h1
    cases e
    refine wp_block (ih hp h1 h ht hd (fun c a d v w hh => hQ c a d v w hh) fun o ho g1 a' w1 hg hs hl hdf => ?_)
    have := hq _ (List.mem_map.2 ⟨o, ho, rfl⟩)
    obtain ⟨x, ts1, S1, d1⟩ := o
    cases x with
    | normal => exact this g1 a' w1 hg hs hl hdf
    | exit i =>
      simp only [SE.to, Exit.inBlock]
      simp only [] at this
      split at this
      · rename_i hid; rw [if_pos hid]; exact this g1 a' w1 hg hs hl hdf
      · rename_i hid; rw [if_neg hid]; exact this g1 a' w1 hg hs hl hdf
    | ret => exact this g1 a' w1 hg hs hl hdf
  | loop b ih =>
    intro Q ts S d os g a w hp e h ht hd hQ hq
    simp only [codeOk] at hp
    simp only [evCL] at e
    refine wp_loop_k (fun k a w => ∃ ts S d g1 os1, loopL (evCL P N call pl lf b) k ts S d = some os1 ∧ Sim w0 g1 S w ∧ LR g1 ts a.tmps.toList ∧ a.defers = [] ∧ ∀ o ∈ os1, Good w0 g1 Q o) ?_ lf a w ⟨ts, S, d, g, os, e, h, ht, hd, hq⟩
    rintro k a w ⟨ts, S, d, g1, os1, e, h, ht, hd, hq⟩
    cases k with
    | zero => cases e
    | succ k =>
      refine ⟨k, rfl, ?_⟩
      simp only [loopL] at e
      split at e
      case h_2 => cases e
      rename_i l1 h1
      refine ih hp h1 h ht hd (fun c a d v w hh => hQ c a d v w hh) fun o ho g2 a' w1 hg hs hl hdf => ?_
      obtain ⟨os2, he2, hsub⟩ := onAll_mem e o ho
      obtain ⟨x, ts2, S2, d2⟩ := o
      cases x with
      | normal => exact ⟨ts2, S2, d2, g2, os2, he2, hs, hl, hdf, fun o ho g' a' w' h1 => hq o (hsub o ho) g' a' w' (Gm.le_trans hg h1)⟩
      | exit id => cases he2; exact hq _ (hsub _ (List.mem_singleton.2 rfl)) g2 a' w1 hg hs hl hdf
      | ret => cases he2; exact hq _ (hsub _ (List.mem_singleton.2 rfl)) g2 a' w1 hg hs hl hdf
  | exit id =>
    intro Q ts S d os g a w hp e h ht hd hQ hq
    cases e
    exact wp_exit (hq _ (List.mem_singleton.2 rfl) g a w g.le_refl h ht hd)
  | ret =>
    intro Q ts S d os g a w hp e h ht hd hQ hq
    cases e
    exact wp_ret (hq _ (List.mem_singleton.2 rfl) g a w g.le_refl h ht hd)
  | _ =>
    intro Q ts S d os g a w hp e h ht hd hQ hq
    cases e

def isEnd : SE → Bool
  | .exit _ => false
  | _ => true

/-- The result of one way, the new names forgotten. -/
def outOf (P : Program) (S : SH) (rs : List ResultVar) (o : Out) : Option (Value × SH) :=
  if isEnd o.1 then
    match resS P o.2.2.1 o.2.1 rs with
    | some v => if vIn (keepIn S o.2.2.1) 8 v && allIn (keepIn S o.2.2.1) (keepIn S o.2.2.1) then some (v, keepIn S o.2.2.1) else none
    | none => none
  else none

def sameAs (P : Program) (S : SH) (rs : List ResultVar) (v : Value) (T : SH) : List Out → Bool
  | [] => true
  | o :: r => (match outOf P S rs o with | some (v', T') => veq 8 v' v && teq T' T | none => false) && sameAs P S rs v T r

theorem sameAs_mem {S : SH} {rs : List ResultVar} {v : Value} {T : SH} : ∀ {l : List Out}, sameAs P S rs v T l = true → ∀ o ∈ l, outOf P S rs o = some (v, T)
  | [], _, o, ho => by cases ho
  | x :: r, h, o, ho => by
    simp only [sameAs, Bool.and_eq_true] at h
    rcases List.mem_cons.1 ho with rfl | ho
    · have h1 := h.1
      split at h1
      · rename_i v' T' e
        simp only [Bool.and_eq_true] at h1
        rw [e, veq_eq 8 _ _ h1.1, teq_eq _ _ h1.2]
      · cases h1
    · exact sameAs_mem h.2 o ho

/-- A function whose maps are ranged over. -/
def evFnL (P : Program) (N : Nat) (call : CallF) (pl : Nat → Option Plan) (lf : Nat) (f : FuncId) : List Value → SH → Nat → Option (Value × SH × Nat) := fun args S d =>
  match fnOf P f with
  | some (fn, c) => if args.length ≤ fn.ntmps then
      match evCL P N call pl lf c (args ++ List.replicate (fn.ntmps - args.length) undef) S d with
      | some (o :: r) => match outOf P S fn.results.toList o with
        | some (v, T) => if sameAs P S fn.results.toList v T r then some (v, T, d) else none
        | none => none
      | _ => none
    else none
  | none => none

theorem evFnL_ok {N : Nat} (hz : ZC P N) (hm : P.follows .mixedOrders = true) {call : CallF} (hc : CallOk P call) {pl : Nat → Option Plan} {lf : Nat} {f : FuncId} (hp : (match fnOf P f with | some (_, c) => codeOk pl c | none => true) = true) :
    CallOk P (fun f' args S d => if f' = f then evFnL P N call pl lf f args S d else none) := by
  intro f' args S d v S' d' e w0 g w args' h hl
  simp only [] at e
  split at e
  case isFalse => cases e
  rename_i hf'
  subst hf'
  unfold evFnL at e
  split at e
  case h_2 => cases e
  rename_i fn c hf
  simp only [hf] at hp
  split at e
  case isFalse => cases e
  rename_i hlen
  split at e
  case h_2 => cases e
  rename_i o r hev
  split at e
  case h_2 => cases e
  rename_i v1 T hout
  split at e
  case isFalse => cases e
  rename_i hsame
  cases e
  obtain ⟨f1, f2, _⟩ := fnOf_some hf
  have all : ∀ x ∈ o :: r, outOf P S fn.results.toList x = some (v, S') := fun x hx => by
    rcases List.mem_cons.1 hx with rfl | hx
    · exact hout
    · exact sameAs_mem hsame x hx
  have ht0 : LR g (args ++ List.replicate (fn.ntmps - args.length) undef) (args'.toArray ++ Array.replicate (fn.ntmps - args'.toArray.size) undef).toList := by
    have : (args'.toArray ++ Array.replicate (fn.ntmps - args'.toArray.size) undef).toList = args' ++ List.replicate (fn.ntmps - args.length) undef := by simp [hl.1]
    rw [this]
    exact hl.append (.of_closed (n := 4) (by simp [List.all_replicate]; exact .inr rfl))
  refine calls_of_wp f1 f2 ?_
  refine evCL_ok (w0 := w0) hz hm hc c hp hev h ht0 rfl ?_ fun x hx g' a' w' h1 h2 h3 h4 => ?_
  · intro c a d v w hh
    simp only [bodyPost, put_defers] at hh ⊢
    exact hh
  · have ho := all x hx
    obtain ⟨se, ts1, S1, d1⟩ := x
    unfold outOf at ho
    split at ho
    case isFalse => cases ho
    rename_i hse
    split at ho
    case h_2 => cases ho
    rename_i v2 hr
    split at ho
    case isFalse => cases ho
    rename_i hin
    simp only [Bool.and_eq_true] at hin
    cases ho
    obtain ⟨v', b1, b2⟩ := resS_ok h2 h3 hr
    have fin : ∃ v'' g'', Ending.returned v' = .returned v'' ∧ g.le g'' ∧ VR g'' v v'' ∧ Sim w0 g'' (keepIn S S1) w' :=
      ⟨v', g'.restr (keepIn S S1), rfl, Sim.forget_le h h2 h1, b1.restr hin.1, h2.forget S hin.2⟩
    cases se with
    | normal => exact ⟨h4, v', b2, fin⟩
    | ret => exact ⟨h4, v', b2, fin⟩
    | exit id => cases hse
end
end Go.Proofs.Ytckejldjoajpgaa
