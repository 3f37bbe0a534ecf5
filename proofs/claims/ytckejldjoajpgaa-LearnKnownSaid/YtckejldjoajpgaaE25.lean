/- A faster run of the shadow: code and functions. Nothing of the program. -/
import Derived.Test.YtckejldjoajpgaaE24
namespace Go.Proofs.Ytckejldjoajpgaa
open Go
set_option linter.all false

abbrev FT := SE × Tr Value × SH × Nat

noncomputable def csLoop (step : Tr Value → SH → Nat → Option FT) : Nat → Tr Value → SH → Nat → Option FT
  | 0 => fun _ _ _ => none
  | k + 1 => fun t S d => match step t S d with
    | some (.normal, t', S', d') => csLoop step k t' S' d'
    | x => x

noncomputable def csC (P : Program) (N : Nat) (call : CallF) (pl : Nat → Option Plan) (lf m : Nat) : Code → Tr Value → SH → Nat → Option FT
  | .skip => fun t S d => some (.normal, t, S, d)
  | .region id ops draw => fun t S d =>
    match (match draw with
      | true => (match pl id with
        | some p => csDraw P N call m ops p t S d
        | none => none)
      | false => csSeq P N call m ops ops.toList t S d) with
    | some (t', S', d') => some (.normal, t', S', d')
    | none => none
  | .seq x y => fun t S d => match csC P N call pl lf m x t S d with
    | some (.normal, t', S', d') => csC P N call pl lf m y t' S' d'
    | r => r
  | .cond c x y => fun t S d => match (match cx c with | some c => c.get t | none => none) with
    | some (.bool true) => csC P N call pl lf m x t S d
    | some (.bool false) => csC P N call pl lf m y t S d
    | _ => none
  | .block id b => fun t S d => match csC P N call pl lf m b t S d with
    | some (.exit i, t', S', d') => if i = id then some (.normal, t', S', d') else some (.exit i, t', S', d')
    | r => r
  | .loop b => csLoop (csC P N call pl lf m b) lf
  | .exit id => fun t S d => some (.exit id, t, S, d)
  | .ret => fun t S d => some (.ret, t, S, d)
  | _ => fun _ _ _ => none

section
variable {P : Program} {N m : Nat} {call : CallF} {pl : Nat → Option Plan} {lf : Nat}

theorem csLoop_ok {step : Tr Value → SH → Nat → Option FT} {step' : StepF} (hs : ∀ ts t S d x t' S' d', TL m ts t → step t S d = some (x, t', S', d') → ∃ ts', TL m ts' t' ∧ step' ts S d = some (x, ts', S', d')) :
    ∀ (k : Nat) {ts : List Value} {t : Tr Value} {S : SH} {d : Nat} {x : SE} {t' : Tr Value} {S' : SH} {d' : Nat}, TL m ts t → csLoop step k t S d = some (x, t', S', d') → ∃ ts', TL m ts' t' ∧ loopN step' k ts S d = some (x, ts', S', d')
  | 0, ts, t, S, d, x, t', S', d', hT, h => by cases h
  | k + 1, ts, t, S, d, x, t', S', d', hT, h => by
    simp only [csLoop] at h
    simp only [loopN]
    split at h
    · rename_i t1 S1 d1 h1
      obtain ⟨ts1, hT1, e1⟩ := hs _ _ _ _ _ _ _ _ hT h1
      rw [e1]
      exact csLoop_ok hs k hT1 h
    · rename_i hne
      obtain ⟨ts1, hT1, e1⟩ := hs _ _ _ _ _ _ _ _ hT h
      refine ⟨ts1, hT1, ?_⟩
      rw [e1]
      cases x with
      | normal => exact (hne _ _ _ h).elim
      | exit i => rfl
      | ret => rfl

theorem csC_ok : ∀ (c : Code) {ts : List Value} {t : Tr Value} {S : SH} {d : Nat} {x : SE} {t' : Tr Value} {S' : SH} {d' : Nat}, TL m ts t → csC P N call pl lf m c t S d = some (x, t', S', d') →
    ∃ ts', TL m ts' t' ∧ evC P N call pl lf c ts S d = some (x, ts', S', d') := by
  intro c
  induction c with
  | skip => intro ts t S d x t' S' d' hT h; cases h; exact ⟨ts, hT, rfl⟩
  | region id ops draw =>
    intro ts t S d x t' S' d' hT h
    simp only [csC] at h
    split at h
    case h_2 => cases h
    rename_i t1 S1 d1 h1
    cases h
    simp only [evC]
    cases draw with
    | true =>
      simp only [] at h1
      split at h1
      case h_2 => cases h1
      rename_i p hp
      obtain ⟨ts1, hT1, e1⟩ := csDraw_ok hT h1
      refine ⟨ts1, hT1, ?_⟩
      simp only [if_true, hp, e1]
    | false =>
      simp only [] at h1
      obtain ⟨ts1, hT1, e1⟩ := csSeq_ok _ hT h1
      refine ⟨ts1, hT1, ?_⟩
      simp only [Bool.false_eq_true, if_false, e1]
  | seq a b iha ihb =>
    intro ts t S d x t' S' d' hT h
    simp only [csC] at h
    simp only [evC]
    split at h
    · rename_i t1 S1 d1 h1
      obtain ⟨ts1, hT1, e1⟩ := iha hT h1
      rw [e1]
      exact ihb hT1 h
    · rename_i hne
      obtain ⟨ts1, hT1, e1⟩ := iha hT h
      refine ⟨ts1, hT1, ?_⟩
      rw [e1]
      cases x with
      | normal => exact (hne _ _ _ h).elim
      | exit i => rfl
      | ret => rfl
  | cond c a b iha ihb =>
    intro ts t S d x t' S' d' hT h
    simp only [csC] at h
    simp only [evC]
    split at h
    · rename_i h1
      split at h1
      case h_2 => cases h1
      rename_i c1 hc1
      rw [cx_ok hT hc1 h1]
      exact iha hT h
    · rename_i h1
      split at h1
      case h_2 => cases h1
      rename_i c1 hc1
      rw [cx_ok hT hc1 h1]
      exact ihb hT h
    · cases h
  | block id b ih =>
    intro ts t S d x t' S' d' hT h
    simp only [csC] at h
    simp only [evC]
    split at h
    · rename_i i t1 S1 d1 h1
      obtain ⟨ts1, hT1, e1⟩ := ih hT h1
      rw [e1]
      simp only []
      split at h
      · rename_i hi; cases h; exact ⟨ts1, hT1, by rw [if_pos hi]⟩
      · rename_i hi; cases h; exact ⟨ts1, hT1, by rw [if_neg hi]⟩
    · rename_i hne
      obtain ⟨ts1, hT1, e1⟩ := ih hT h
      refine ⟨ts1, hT1, ?_⟩
      rw [e1]
      cases x with
      | normal => rfl
      | exit i => exact (hne _ _ _ _ h).elim
      | ret => rfl
  | loop b ih =>
    intro ts t S d x t' S' d' hT h
    simp only [csC] at h
    simp only [evC]
    exact csLoop_ok (step := csC P N call pl lf m b) (step' := evC P N call pl lf b) (fun ts t S d x t' S' d' hT h => ih hT h) lf hT h
  | exit id => intro ts t S d x t' S' d' hT h; cases h; exact ⟨ts, hT, rfl⟩
  | ret => intro ts t S d x t' S' d' hT h; cases h; exact ⟨ts, hT, rfl⟩
  | _ => intro ts t S d x t' S' d' hT h; cases h
end

/-- Results. -/
noncomputable def resLT (P : Program) (S : SH) (t : Tr Value) : List ResultVar → Option (List Value)
  | [] => some []
  | .tmp i :: r => match hget t i, resLT P S t r with
    | some v, some vs => some (v :: vs)
    | _, _ => none
  | .cell b ty :: r => match hget t b with
    | some (.pointer (some ⟨q, o, none⟩)) => match loadS P S ty q o, resLT P S t r with
      | some v, some vs => some (v :: vs)
      | _, _ => none
    | _ => none
noncomputable def resT (P : Program) (S : SH) (t : Tr Value) (rs : List ResultVar) : Option Value := match resLT P S t rs with
  | some [v] => some v
  | some vs => some (.tuple vs.toArray)
  | none => none

theorem resLT_eq {P : Program} {S : SH} {n : Nat} {ts : List Value} {t : Tr Value} (hT : TL n ts t) : ∀ rs, resLT P S t rs = resL P S ts rs
  | [] => rfl
  | .tmp i :: r => by simp only [resLT, resL, resLT_eq hT r, hget_eq, hT.2 i]; rfl
  | .cell b ty :: r => by
    simp only [resLT, resL, resLT_eq hT r, hget_eq, hT.2 b]; rfl
theorem resT_eq {P : Program} {S : SH} {n : Nat} {ts : List Value} {t : Tr Value} (hT : TL n ts t) (rs : List ResultVar) : resT P S t rs = resS P S ts rs := by
  unfold resT resS
  rw [resLT_eq hT]; rfl

/-- A frame of nothing; arguments laid over it. -/
def undefT (n : Nat) : Tr Value := ofL (List.replicate n undef) 0 .nil
noncomputable def argsT : List Value → Nat → Tr Value → Tr Value
  | [], _, t => t
  | v :: r, i, t => argsT r (i + 1) (hset t i v)

theorem argsT_get : ∀ (l : List Value) (i : Nat) (t : Tr Value) (j : Nat), (argsT l i t).get j = if i ≤ j ∧ j < i + l.length then l[j - i]? else t.get j
  | [], i, t, j => by simp only [argsT, List.length_nil, Nat.add_zero]; rw [if_neg (by omega)]
  | v :: r, i, t, j => by
    simp only [argsT, hset_eq]
    rw [argsT_get r (i + 1) _ j, Tr.get_set]
    simp only [List.length_cons]
    by_cases h : j = i
    · subst h
      rw [if_neg (by omega), if_pos rfl, if_pos (by omega)]
      simp
    · by_cases h2 : i + 1 ≤ j ∧ j < i + 1 + r.length
      · rw [if_pos h2, if_pos (by omega)]
        obtain ⟨k, rfl⟩ : ∃ k, j = i + 1 + k := ⟨j - (i + 1), by omega⟩
        rw [show i + 1 + k - (i + 1) = k by omega, show i + 1 + k - i = k + 1 by omega, List.getElem?_cons_succ]
      · rw [if_neg h2, if_neg h, if_neg (by omega)]

theorem TL.args {n : Nat} {l : List Value} (h : l.length ≤ n) : TL n (l ++ List.replicate (n - l.length) undef) (argsT l 0 (undefT n)) :=
  ⟨by simp; omega, fun i => by
    rw [argsT_get]
    simp only [Nat.zero_le, true_and, Nat.zero_add, Nat.sub_zero]
    by_cases hi : i < l.length
    · rw [if_pos hi, List.getElem?_append_left hi]
    · rw [if_neg hi, List.getElem?_append_right (by omega)]
      unfold undefT
      rw [(TL.of (List.replicate n undef)).2 i]
      by_cases h2 : i < n
      · rw [List.getElem?_replicate, if_pos h2, List.getElem?_replicate, if_pos (by omega)]
      · rw [List.getElem?_replicate, if_neg h2, List.getElem?_replicate, if_neg (by omega)]⟩

/-- Functions; some are handed in. -/
noncomputable def csFn (P : Program) (N : Nat) (plans : FuncId → Nat → Option Plan) (hooks : FuncId → Option (List Value → SH → Nat → Option (Value × SH × Nat))) (lf : Nat) : Nat → CallF
  | 0 => fun _ _ _ _ => none
  | n + 1 => fun f args S d => match hooks f with
    | some h => h args S d
    | none => match fnOf P f with
      | some (fn, c) => match Nat.ble args.length fn.ntmps with
        | true => match csC P N (csFn P N plans hooks lf n) (plans f) lf fn.ntmps c (argsT args 0 (undefT fn.ntmps)) S d with
          | some (.normal, t', S', d') | some (.ret, t', S', d') => match resT P S' t' fn.results.toList with
            | some v => some (v, S', d')
            | none => none
          | _ => none
        | false => none
      | none => none

theorem evSeq_mono {P : Program} {N : Nat} {call call' : CallF} (hc : ∀ f args S d r, call f args S d = some r → call' f args S d = some r) {ops : Array Oper} : True := trivial

/-- What calls make of it: all that stands behind them. -/
def CallOkF (P : Program) (call : CallF) : Prop := CallOk P call

theorem csFn_ok {P : Program} {N : Nat} (hz : ZC P N) (hm : P.follows .mixedOrders = true) {plans : FuncId → Nat → Option Plan} (hp : plansOk P plans = true) {hooks : FuncId → Option (List Value → SH → Nat → Option (Value × SH × Nat))}
    (hh : ∀ f h, hooks f = some h → CallOk P (fun f' args S d => if f' = f then h args S d else none)) {lf : Nat} : ∀ n, CallOk P (csFn P N plans hooks lf n)
  | 0 => fun f args S d v S' d' e => nomatch e
  | n + 1 => fun f args S d v S' d' e w0 g w args' h hl => by
    have ih := csFn_ok hz hm hp hh (lf := lf) n
    simp only [csFn] at e
    split at e
    · rename_i hk hhk
      exact hh f hk hhk f args S d v S' d' (by simpa using e) w0 g w args' h hl
    split at e
    case h_2 => cases e
    rename_i fn c hf
    split at e
    case h_2 => cases e
    rename_i hlen
    have hlen := Nat.le_of_ble_eq_true hlen
    obtain ⟨f1, f2, _⟩ := fnOf_some hf
    have hco : codeOk (plans f) c = true := by
      have hlt : f < P.funcs.size := (Array.getElem?_eq_some_iff.1 f1).1
      have := List.all_eq_true.1 hp f (by simpa using hlt)
      simpa [hf] using this
    have ht0 : LR g (args ++ List.replicate (fn.ntmps - args.length) undef) (args'.toArray ++ Array.replicate (fn.ntmps - args'.toArray.size) undef).toList := by
      have : (args'.toArray ++ Array.replicate (fn.ntmps - args'.toArray.size) undef).toList = args' ++ List.replicate (fn.ntmps - args.length) undef := by simp [hl.1]
      rw [this]
      exact hl.append (.of_closed (n := 4) (by simp [List.all_replicate]; exact .inr rfl))
    have fin : ∀ (x : SE) t', (x = .normal ∨ x = .ret) → csC P N (csFn P N plans hooks lf n) (plans f) lf fn.ntmps c (argsT args 0 (undefT fn.ntmps)) S d = some (x, t', S', d') → resT P S' t' fn.results.toList = some v →
        Calls P f args'.toArray w fun e w' => ∃ v' g', e = .returned v' ∧ g.le g' ∧ VR g' v v' ∧ Sim w0 g' S' w' := by
      intro x t' hx he hr
      obtain ⟨ts', hT', he'⟩ := csC_ok c (TL.args hlen) he
      rw [resT_eq hT'] at hr
      refine calls_of_wp f1 f2 ?_
      refine evC_ok (w0 := w0) hz hm ih c hco he' h ht0 rfl ?_ fun g' a' w' h1 h2 h3 h4 => ?_
      · intro c a d v w hh
        simp only [bodyPost, put_defers] at hh ⊢
        exact hh
      · obtain ⟨v', b1, b2⟩ := resS_ok h2 h3 hr
        rcases hx with rfl | rfl
        · exact ⟨h4, v', b2, v', g', rfl, h1, b1, h2⟩
        · exact ⟨h4, v', b2, v', g', rfl, h1, b1, h2⟩
    split at e
    · rename_i t' S1 d1 he
      split at e
      case h_2 => cases e
      rename_i v1 hr
      cases e
      exact fin .normal t' (.inl rfl) he hr
    · rename_i t' S1 d1 he
      split at e
      case h_2 => cases e
      rename_i v1 hr
      cases e
      exact fin .ret t' (.inr rfl) he hr
    · cases e
end Go.Proofs.Ytckejldjoajpgaa
