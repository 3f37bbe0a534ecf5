/- Code and functions on the shadow. Nothing of the program. -/
import Derived.Test.YtckejldjoajpgaaE16
namespace Go.Proofs.Ytckejldjoajpgaa
open Go
set_option linter.all false

inductive SE where
  | normal
  | exit (id : Nat)
  | ret
def SE.to : SE → Exit
  | .normal => .normal
  | .exit id => .exit id
  | .ret => .ret

abbrev StepF := List Value → SH → Nat → Option (SE × List Value × SH × Nat)

def loopN (step : StepF) : Nat → StepF
  | 0 => fun _ _ _ => none
  | k + 1 => fun ts S d => match step ts S d with
    | some (.normal, ts', S', d') => loopN step k ts' S' d'
    | x => x

def evC (P : Program) (N : Nat) (call : CallF) (pl : Nat → Option Plan) (lf : Nat) : Code → StepF
  | .skip => fun ts S d => some (.normal, ts, S, d)
  | .region id ops draw => fun ts S d =>
    match (if draw then (match pl id with
      | some p => evDraw P N call ops p ts S d
      | none => none) else evSeq P N call ops ops.toList ts S d) with
    | some (ts', S', d') => some (.normal, ts', S', d')
    | none => none
  | .seq x y => fun ts S d => match evC P N call pl lf x ts S d with
    | some (.normal, ts', S', d') => evC P N call pl lf y ts' S' d'
    | r => r
  | .cond c x y => fun ts S d => match opnd ts c with
    | some (.bool true) => evC P N call pl lf x ts S d
    | some (.bool false) => evC P N call pl lf y ts S d
    | _ => none
  | .block id b => fun ts S d => match evC P N call pl lf b ts S d with
    | some (.exit i, ts', S', d') => if i = id then some (.normal, ts', S', d') else some (.exit i, ts', S', d')
    | r => r
  | .loop b => loopN (evC P N call pl lf b) lf
  | .exit id => fun ts S d => some (.exit id, ts, S, d)
  | .ret => fun ts S d => some (.ret, ts, S, d)
  | _ => fun _ _ _ => none

def codeOk (pl : Nat → Option Plan) : Code → Bool
  | .region id ops true => match pl id with
    | some p => planFits ops p
    | none => true
  | .seq a b | .cond _ a b => codeOk pl a && codeOk pl b
  | .block _ b | .loop b => codeOk pl b
  | _ => true

section
variable {P : Program} {w0 : World} {Q : Exit → Act → World → Prop}

theorem wp_loop_k {c : Code} (I : Nat → Act → World → Prop) (round : ∀ k a w, I k a w → ∃ j, k = j + 1 ∧ c.wp P (Exit.then (fun a' w' => I j a' w') Q) a w) (k0 : Nat) (a0 : Act) (w0 : World) (h0 : I k0 a0 w0) : (Code.loop c).wp P Q a0 w0 := by
  intro b k cs
  have key : ∀ n a w, I n a w →
      ∃ e a' w', Q e a' w' ∧ Arrives P (lone (b.at a (.code c :: .inLoop c :: k)) cs w) b k cs e a' w' := by
    intro n
    induction n with
    | zero => intro a w h; obtain ⟨j, hj, _⟩ := round 0 a w h; omega
    | succ n ih =>
      intro a w hI
      obtain ⟨j, hj, hr⟩ := round (n + 1) a w hI
      obtain rfl : j = n := by omega
      obtain ⟨e, a₁, w₁, hq, harr⟩ := hr b (.inLoop c :: k) cs
      cases e with
      | normal =>
        obtain ⟨e₂, a₂, w₂, hq₂, harr₂⟩ := ih a₁ w₁ hq
        exact ⟨e₂, a₂, w₂, hq₂, .of_steps (Steps.trans harr (.one step_inLoop)) harr₂⟩
      | exit id => exact ⟨_, a₁, w₁, hq, .pass (x := .inLoop c) rfl (fun _ _ => .inl (by simp)) harr⟩
      | goto l => exact ⟨_, a₁, w₁, hq, .pass (x := .inLoop c) rfl (fun _ _ => .inl (by simp)) harr⟩
      | ret => exact ⟨_, a₁, w₁, hq, .pass (x := .inLoop c) rfl (fun _ _ => .inl (by simp)) harr⟩
      | panic ch => exact ⟨_, a₁, w₁, hq, .pass (x := .inLoop c) rfl (fun _ _ => .inl (by simp)) harr⟩
      | outgrown => exact ⟨_, a₁, w₁, hq, .pass (x := .inLoop c) rfl (fun _ _ => .inl (by simp)) harr⟩
  obtain ⟨e, a', w', hq, harr⟩ := key _ a0 w0 h0
  exact ⟨e, a', w', hq, .of_steps (.one step_loop) harr⟩

def QP (Q : Exit → Act → World → Prop) : Prop := ∀ c a d v w, Q (.panic c) (Act.put a d v) w → Q (.panic c) a w

theorem evC_ok {N : Nat} (hz : ZC P N) (hm : P.follows .mixedOrders = true) {call : CallF} (hc : CallOk P call) {pl : Nat → Option Plan} {lf : Nat} : ∀ (c : Code) {Q : Exit → Act → World → Prop} {ts : List Value} {S : SH} {d : Nat} {x : SE} {ts' : List Value} {S' : SH} {d' : Nat} {g : Gm} {a : Act} {w : World},
    codeOk pl c = true → evC P N call pl lf c ts S d = some (x, ts', S', d') → Sim w0 g S w → LR g ts a.tmps.toList → a.defers = [] → QP Q →
    (∀ g' a' w', g.le g' → Sim w0 g' S' w' → LR g' ts' a'.tmps.toList → a'.defers = [] → Q x.to a' w') → c.wp P Q a w := by
  intro c
  induction c with
  | skip =>
    intro Q ts S d x ts' S' d' g a w hp e h ht hd hQ hq
    cases e
    exact wp_skip (hq g a w g.le_refl h ht hd)
  | region id ops draw =>
    intro Q ts S d x ts' S' d' g a w hp e h ht hd hQ hq
    simp only [evC] at e
    split at e
    case h_2 => cases e
    rename_i ts1 S1 d1 h1
    cases e
    cases draw with
    | true =>
      simp only [if_true] at h1
      split at h1
      case h_2 => cases h1
      rename_i p hpl
      have hfit : planFits ops p = true := by simpa [codeOk, hpl] using hp
      obtain ⟨l⟩ := ops
      exact evDraw_ok hz hm hc hfit hQ h1 h ht hd hq
    | false => exact wp_region_list (evSeq_ok hz hc _ h1 h ht hd hq)
  | seq a1 b1 iha ihb =>
    intro Q ts S d x ts' S' d' g a w hp e h ht hd hQ hq
    simp only [codeOk, Bool.and_eq_true] at hp
    simp only [evC] at e
    refine wp_seq ?_
    split at e
    · rename_i ts1 S1 d1 h1
      refine iha hp.1 h1 h ht hd (fun c a d v w hh => hQ c a d v w hh) fun g1 a' w1 hg hs hl hdf => ?_
      exact ihb hp.2 e hs hl hdf hQ fun g' a' w' h1 h2 h3 h4 => hq g' a' w' (Gm.le_trans hg h1) h2 h3 h4
    · rename_i hne
      refine iha hp.1 e h ht hd (fun c a d v w hh => hQ c a d v w hh) fun g1 a' w1 hg hs hl hdf => ?_
      cases x with
      | normal => exact (hne _ _ _ e).elim
      | exit id => exact hq g1 a' w1 hg hs hl hdf
      | ret => exact hq g1 a' w1 hg hs hl hdf
  | cond cd x1 y1 ihx ihy =>
    intro Q ts S d x ts' S' d' g a w hp e h ht hd hQ hq
    simp only [codeOk, Bool.and_eq_true] at hp
    simp only [evC] at e
    split at e
    · rename_i ho
      exact wp_cond_true (opnd_ok ht ho).bool_inv (ihx hp.1 e h ht hd hQ hq)
    · rename_i ho
      exact wp_cond_false (opnd_ok ht ho).bool_inv (ihy hp.2 e h ht hd hQ hq)
    · cases e
  | block id b ih =>
    intro Q ts S d x ts' S' d' g a w hp e h ht hd hQ hq
    simp only [codeOk] at hp
    simp only [evC] at e
    refine wp_block ?_
    split at e
    · rename_i i ts1 S1 d1 h1
      refine ih hp h1 h ht hd (fun c a d v w hh => hQ c a d v w hh) fun g1 a' w1 hg hs hl hdf => ?_
      simp only [SE.to, Exit.inBlock]
      split at e
      · rename_i hid; cases e; rw [if_pos hid]; exact hq g1 a' w1 hg hs hl hdf
      · rename_i hid; cases e; rw [if_neg hid]; exact hq g1 a' w1 hg hs hl hdf
    · rename_i hne
      refine ih hp e h ht hd (fun c a d v w hh => hQ c a d v w hh) fun g1 a' w1 hg hs hl hdf => ?_
      cases x with
      | normal => exact hq g1 a' w1 hg hs hl hdf
      | exit id => exact (hne _ _ _ _ e).elim
      | ret => exact hq g1 a' w1 hg hs hl hdf
  | loop b ih =>
    intro Q ts S d x ts' S' d' g a w hp e h ht hd hQ hq
    simp only [codeOk] at hp
    simp only [evC] at e
    refine wp_loop_k (fun k a w => ∃ ts S d g1, loopN (evC P N call pl lf b) k ts S d = some (x, ts', S', d') ∧ Sim w0 g1 S w ∧ LR g1 ts a.tmps.toList ∧ a.defers = [] ∧ g.le g1) ?_ lf a w ⟨ts, S, d, g, e, h, ht, hd, g.le_refl⟩
    rintro k a w ⟨ts, S, d, g1, e, h, ht, hd, hg1⟩
    cases k with
    | zero => cases e
    | succ k =>
      refine ⟨k, rfl, ?_⟩
      simp only [loopN] at e
      split at e
      · rename_i ts2 S2 d2 h2
        exact ih hp h2 h ht hd (fun c a d v w hh => hQ c a d v w hh) fun g2 a' w1 hg hs hl hdf => ⟨ts2, S2, d2, g2, e, hs, hl, hdf, Gm.le_trans hg1 hg⟩
      · rename_i hne
        refine ih hp e h ht hd (fun c a d v w hh => hQ c a d v w hh) fun g2 a' w1 hg hs hl hdf => ?_
        cases x with
        | normal => exact (hne _ _ _ e).elim
        | exit id => exact hq g2 a' w1 (Gm.le_trans hg1 hg) hs hl hdf
        | ret => exact hq g2 a' w1 (Gm.le_trans hg1 hg) hs hl hdf
  | exit id =>
    intro Q ts S d x ts' S' d' g a w hp e h ht hd hQ hq
    cases e
    exact wp_exit (hq g a w g.le_refl h ht hd)
  | ret =>
    intro Q ts S d x ts' S' d' g a w hp e h ht hd hQ hq
    cases e
    exact wp_ret (hq g a w g.le_refl h ht hd)
  | _ =>
    intro Q ts S d x ts' S' d' g a w hp e h ht hd hQ hq
    cases e

/-- Results. -/
def resL (P : Program) (S : SH) (ts : List Value) : List ResultVar → Option (List Value)
  | [] => some []
  | .tmp t :: r => match ts[t]?, resL P S ts r with
    | some v, some vs => some (v :: vs)
    | _, _ => none
  | .cell b t :: r => match ts[b]? with
    | some (.pointer (some ⟨q, o, none⟩)) => match loadS P S t q o, resL P S ts r with
      | some v, some vs => some (v :: vs)
      | _, _ => none
    | _ => none
def resS (P : Program) (S : SH) (ts : List Value) (rs : List ResultVar) : Option Value := match resL P S ts rs with
  | some [v] => some v
  | some vs => some (.tuple vs.toArray)
  | none => none

theorem resL_ok {g : Gm} {S : SH} {w : World} {ts : List Value} {tmps : Array Value} (h : Sim w0 g S w) (ht : LR g ts tmps.toList) : ∀ (rs : List ResultVar) {vs : List Value}, resL P S ts rs = some vs → ∃ vs', LR g vs vs' ∧
    (rs.mapM (fun | .tmp t => pure (tmps.getD t undef) | .cell a t => do loadVar t (← asAddr (tmps.getD a undef)) : ResultVar → Sem Value)).run P w = .ok vs' w
  | [], vs, e => by cases e; exact ⟨[], .nil, rfl⟩
  | .tmp t :: r, vs, e => by
    simp only [resL] at e
    split at e
    · rename_i v vs1 h1 h2
      cases e
      obtain ⟨vs', a1, a2⟩ := resL_ok h ht r h2
      obtain ⟨v', b1, b2⟩ := ht.get h1
      have b1 : tmps[t]? = some v' := by simpa using b1
      refine ⟨v' :: vs', .cons b2 a1, ?_⟩
      rw [List.mapM_cons]
      have : tmps.getD t undef = v' := by simp [Array.getD_eq_getD_getElem?, b1]
      simp only [this]
      refine (run_then (a := v') (w1 := w) rfl).trans ?_
      exact (run_then a2).trans rfl
    · cases e
  | .cell b t :: r, vs, e => by
    simp only [resL] at e
    split at e
    case h_2 => cases e
    rename_i q o h1
    split at e
    · rename_i v vs1 h2 h3
      cases e
      obtain ⟨vs', a1, a2⟩ := resL_ok h ht r h3
      obtain ⟨p', b1, b2⟩ := ht.get h1
      obtain ⟨_, x, hx, rfl⟩ := b2.ptr_inv
      obtain ⟨v', c1, c2⟩ := load_ok h h2 hx
      have b1 : tmps[b]? = some (.pointer (some ⟨x.b, o, none⟩)) := by simpa using b1
      refine ⟨v' :: vs', .cons c1 a1, ?_⟩
      rw [List.mapM_cons]
      have : tmps.getD b undef = .pointer (some ⟨x.b, o, none⟩) := by simp [Array.getD_eq_getD_getElem?, b1]
      simp only [this]
      refine (run_then (a := v') (w1 := w) c2).trans ?_
      exact (run_then a2).trans rfl
    · cases e

theorem resS_ok {g : Gm} {S : SH} {w : World} {ts : List Value} {tmps : Array Value} (h : Sim w0 g S w) (ht : LR g ts tmps.toList) {fn : Func} {v : Value} (e : resS P S ts fn.results.toList = some v) : ∃ v', VR g v v' ∧ (results fn tmps).run P w = .ok v' w := by
  have key : ∀ vs, resL P S ts fn.results.toList = some vs → ∃ vs', LR g vs vs' ∧ (results fn tmps).run P w = .ok (if h : vs'.toArray.size = 1 then vs'.toArray[0] else .tuple vs'.toArray) w := by
    intro vs hvs
    obtain ⟨vs', a1, a2⟩ := resL_ok h ht _ hvs
    refine ⟨vs', a1, ?_⟩
    unfold results
    rw [Array.mapM_eq_mapM_toList]
    rw [run_then (a := vs'.toArray) (w1 := w) ?_]
    · rfl
    · rw [map_eq_pure_bind]
      exact (run_then a2).trans rfl
  unfold resS at e
  split at e
  · rename_i v1 hv
    cases e
    obtain ⟨vs', a1, a2⟩ := key _ hv
    have : vs'.length = 1 := by rw [← a1.1]; rfl
    match vs', this with
    | [u], _ => exact ⟨u, a1.2 0 _ _ rfl rfl, a2⟩
  · rename_i vs hne hv
    cases e
    obtain ⟨vs', a1, a2⟩ := key _ hv
    have : vs'.length ≠ 1 := fun h1 => by
      rw [← a1.1] at h1
      match vs, h1 with
      | [u], _ => exact hne u rfl
    refine ⟨.tuple vs'.toArray, .tuple (by simpa using a1.1) fun i v v' x y => a1.2 i v v' (by simpa using x) (by simpa using y), ?_⟩
    rw [a2, dif_neg (by simpa using this)]
  · cases e

/-- Functions; some are handed in. -/
def evFn (P : Program) (N : Nat) (plans : FuncId → Nat → Option Plan) (hooks : FuncId → Option (List Value → SH → Nat → Option (Value × SH × Nat))) (lf : Nat) : Nat → CallF
  | 0 => fun _ _ _ _ => none
  | n + 1 => fun f args S d => match hooks f with
    | some h => h args S d
    | none => match fnOf P f with
      | some (fn, c) => if args.length ≤ fn.ntmps then
          match evC P N (evFn P N plans hooks lf n) (plans f) lf c (args ++ List.replicate (fn.ntmps - args.length) undef) S d with
          | some (.normal, ts', S', d') | some (.ret, ts', S', d') => match resS P S' ts' fn.results.toList with
            | some v => some (v, S', d')
            | none => none
          | _ => none
        else none
      | none => none

def plansOk (P : Program) (plans : FuncId → Nat → Option Plan) : Bool := (List.range P.funcs.size).all fun f => match fnOf P f with
  | some (_, c) => codeOk (plans f) c
  | none => true

theorem evFn_ok {N : Nat} (hz : ZC P N) (hm : P.follows .mixedOrders = true) {plans : FuncId → Nat → Option Plan} (hp : plansOk P plans = true) {hooks : FuncId → Option (List Value → SH → Nat → Option (Value × SH × Nat))}
    (hh : ∀ f h, hooks f = some h → CallOk P (fun f' args S d => if f' = f then h args S d else none)) {lf : Nat} : ∀ n, CallOk P (evFn P N plans hooks lf n)
  | 0 => fun f args S d v S' d' e => nomatch e
  | n + 1 => fun f args S d v S' d' e w0 g w args' h hl => by
    have ih := evFn_ok hz hm hp hh (lf := lf) n
    simp only [evFn] at e
    split at e
    · rename_i hk hhk
      exact hh f hk hhk f args S d v S' d' (by simpa using e) w0 g w args' h hl
    split at e
    case h_2 => cases e
    rename_i fn c hf
    split at e
    case isFalse => cases e
    rename_i hlen
    obtain ⟨f1, f2, _⟩ := fnOf_some hf
    have hco : codeOk (plans f) c = true := by
      have hlt : f < P.funcs.size := (Array.getElem?_eq_some_iff.1 f1).1
      have := List.all_eq_true.1 hp f (by simpa using hlt)
      simpa [hf] using this
    have ht0 : LR g (args ++ List.replicate (fn.ntmps - args.length) undef) (args'.toArray ++ Array.replicate (fn.ntmps - args'.toArray.size) undef).toList := by
      have : (args'.toArray ++ Array.replicate (fn.ntmps - args'.toArray.size) undef).toList = args' ++ List.replicate (fn.ntmps - args.length) undef := by simp [hl.1]
      rw [this]
      exact hl.append (.of_closed (n := 4) (by simp [List.all_replicate]; exact .inr rfl))
    have fin : ∀ (x : SE) ts', (x = .normal ∨ x = .ret) → evC P N (evFn P N plans hooks lf n) (plans f) lf c (args ++ List.replicate (fn.ntmps - args.length) undef) S d = some (x, ts', S', d') → resS P S' ts' fn.results.toList = some v →
        Calls P f args'.toArray w fun e w' => ∃ v' g', e = .returned v' ∧ g.le g' ∧ VR g' v v' ∧ Sim w0 g' S' w' := by
      intro x ts' hx he hr
      refine calls_of_wp f1 f2 ?_
      refine evC_ok (w0 := w0) hz hm ih c hco he h ht0 rfl ?_ fun g' a' w' h1 h2 h3 h4 => ?_
      · intro c a d v w hh
        simp only [bodyPost, put_defers] at hh ⊢
        exact hh
      · obtain ⟨v', b1, b2⟩ := resS_ok h2 h3 hr
        rcases hx with rfl | rfl
        · exact ⟨h4, v', b2, v', g', rfl, h1, b1, h2⟩
        · exact ⟨h4, v', b2, v', g', rfl, h1, b1, h2⟩
    split at e
    · rename_i ts' S1 d1 he
      split at e
      case h_2 => cases e
      rename_i v1 hr
      cases e
      exact fin .normal ts' (.inl rfl) he hr
    · rename_i ts' S1 d1 he
      split at e
      case h_2 => cases e
      rename_i v1 hr
      cases e
      exact fin .ret ts' (.inr rfl) he hr
    · cases e

/-- A closed statement. -/
theorem closed_holds {N : Nat} (hz : zcB P N = true) (hm : P.follows .mixedOrders = true) {plans : FuncId → Nat → Option Plan} (hp : plansOk P plans = true) {hooks : FuncId → Option (List Value → SH → Nat → Option (Value × SH × Nat))}
    (hh : ∀ f h, hooks f = some h → CallOk P (fun f' args S d => if f' = f then h args S d else none)) (lf n : Nat) (f : FuncId)
    (e : (match evFn P N plans hooks lf n f [] .nil 0 with | some (.bool true, _, _) => true | _ => false) = true) (w : World) :
    Calls P f #[] w fun e w' => e = .returned (.bool true) ∧ Go.RowKit.Below w.heap.size w w' := by
  split at e
  case h_2 => cases e
  rename_i S' d' he
  refine Calls.mono (evFn_ok (zc_of hz) hm hp hh n f [] .nil 0 _ _ _ he w _ w [] (Sim.empty w) .nil) ?_
  rintro e w' ⟨v', g', rfl, _, h1, h2⟩
  rw [h1.bool_inv]
  exact ⟨rfl, h2.kn.below⟩
end
end Go.Proofs.Ytckejldjoajpgaa
