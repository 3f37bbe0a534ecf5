/- 'LearnKnown': the kernel runs the evaluator over the program's own text; the evaluator is proved sound for every world. No condition. -/
import Derived.Test.YtckejldjoajpgaaRows
import Derived.Test.YtckejldjoajpgaaWks1
import Derived.WalkKit
import Derived.ProofKit
import Derived.OpenShut
namespace Go.Proofs.Ytckejldjoajpgaa.learnKnown
open Go Go.ChangeShapes Go.WideShapes Go.ChangeAt Go.RowKit
set_option linter.unusedVariables false

def plans (f r : Nat) : Option Plan := match f with
  | 11 => match r with
    | 4 => some ⟨6, [(0, false), (1, false), (2, false), (4, true), (5, true), (7, false)], .alt 3 (.alt 6 (.alt 8 (.more [(9, false), (10, false), (11, false)] (.alt 12 (.alt 13 (.more [(14, false)] .zero) .stop) .stop)) (.alt 12 (.alt 8 (.more [(9, false), (10, false), (11, false)] (.alt 13 (.more [(14, false)] .zero) .stop)) .stop) .stop)) (.alt 12 (.alt 6 (.alt 8 (.more [(9, false), (10, false), (11, false)] (.alt 13 (.more [(14, false)] .zero) .stop)) .stop) .stop) .stop)) (.alt 6 (.alt 3 (.alt 8 (.more [(9, false), (10, false), (11, false)] (.alt 12 (.alt 13 (.more [(14, false)] .zero) .stop) .stop)) (.alt 12 (.alt 8 (.more [(9, false), (10, false), (11, false)] (.alt 13 (.more [(14, false)] .zero) .stop)) .stop) .stop)) (.alt 12 (.alt 3 (.alt 8 (.more [(9, false), (10, false), (11, false)] (.alt 13 (.more [(14, false)] .zero) .stop)) .stop) .stop) .stop)) (.alt 12 (.alt 3 (.alt 6 (.alt 8 (.more [(9, false), (10, false), (11, false)] (.alt 13 (.more [(14, false)] .zero) .stop)) .stop) .stop) (.alt 6 (.alt 3 (.alt 8 (.more [(9, false), (10, false), (11, false)] (.alt 13 (.more [(14, false)] .zero) .stop)) .stop) .stop) .stop)) .stop))⟩
    | _ => none
  | 12 => match r with
    | 15 => some ⟨13, [(0, true), (1, true), (2, true), (3, true), (4, true), (5, true), (6, true), (7, true), (8, true), (9, true), (10, true), (11, true), (12, true)], .alt 13 (.more [(14, false), (15, false), (16, false)] (.alt 17 (.alt 18 (.more [(19, false)] .zero) .stop) .stop)) (.alt 17 (.alt 13 (.more [(14, false), (15, false), (16, false)] (.alt 18 (.more [(19, false)] .zero) .stop)) .stop) .stop)⟩
    | _ => none
  | 13 => match r with
    | 3 => some ⟨6, [(0, false), (1, false), (2, false), (4, true), (5, true)], .alt 3 (.alt 6 (.alt 7 (.more [(8, false), (9, false), (10, false)] (.alt 11 (.alt 12 (.more [(13, false)] .zero) .stop) .stop)) (.alt 11 (.alt 7 (.more [(8, false), (9, false), (10, false)] (.alt 12 (.more [(13, false)] .zero) .stop)) .stop) .stop)) (.alt 11 (.alt 6 (.alt 7 (.more [(8, false), (9, false), (10, false)] (.alt 12 (.more [(13, false)] .zero) .stop)) .stop) .stop) .stop)) (.alt 6 (.alt 3 (.alt 7 (.more [(8, false), (9, false), (10, false)] (.alt 11 (.alt 12 (.more [(13, false)] .zero) .stop) .stop)) (.alt 11 (.alt 7 (.more [(8, false), (9, false), (10, false)] (.alt 12 (.more [(13, false)] .zero) .stop)) .stop) .stop)) (.alt 11 (.alt 3 (.alt 7 (.more [(8, false), (9, false), (10, false)] (.alt 12 (.more [(13, false)] .zero) .stop)) .stop) .stop) .stop)) (.alt 11 (.alt 3 (.alt 6 (.alt 7 (.more [(8, false), (9, false), (10, false)] (.alt 12 (.more [(13, false)] .zero) .stop)) .stop) .stop) (.alt 6 (.alt 3 (.alt 7 (.more [(8, false), (9, false), (10, false)] (.alt 12 (.more [(13, false)] .zero) .stop)) .stop) .stop) .stop)) .stop))⟩
    | _ => none
  | 42 => match r with
    | 2 => some ⟨2, [(0, true), (1, true)], .alt 2 (.alt 3 (.more [(4, false)] .zero) .stop) .stop⟩
    | _ => none
  | 46 => match r with
    | 3 => some ⟨23, [(0, true), (1, true), (2, true), (3, true), (4, true), (5, true), (6, true), (7, true), (8, true), (9, true), (10, true), (11, true), (12, true), (16, true), (17, true), (18, true), (19, true), (20, true), (21, true)], .alt 13 (.more [(14, false)] (.alt 15 (.more [(22, false)] (.alt 23 .zero .stop)) .stop)) .stop⟩
    | _ => none
  | 77 => match r with
    | 3 => some ⟨1, [], .alt 0 (.alt 1 (.more [(2, false), (3, false)] .zero) .stop) (.alt 1 (.alt 0 (.more [(2, false), (3, false)] .zero) .stop) .stop)⟩
    | 5 => some ⟨1, [(3, false)], .alt 0 (.alt 1 (.alt 2 (.more [(4, false), (5, false)] .zero) .stop) .stop) (.alt 1 (.alt 0 (.alt 2 (.more [(4, false), (5, false)] .zero) .stop) .stop) .stop)⟩
    | _ => none
  | 79 => match r with
    | 1 => some ⟨11, [(0, true), (1, true), (2, true), (3, true), (4, true), (5, true), (6, true), (7, true), (8, true), (9, false)], .alt 10 (.alt 11 (.more [(12, false)] .zero) .stop) .stop⟩
    | 2 => some ⟨14, [(0, false), (1, false), (2, false), (3, false), (4, false), (5, false), (8, false), (9, false), (10, false)], .alt 6 (.alt 7 (.alt 11 (.more [(12, false), (13, false)] .zero) .stop) (.alt 11 (.alt 7 (.more [(12, false), (13, false)] .zero) .stop) .stop)) (.alt 11 (.alt 6 (.alt 7 (.more [(12, false), (13, false)] .zero) .stop) .stop) .stop)⟩
    | 7 => some ⟨7, [(0, true), (1, true), (2, true), (3, true), (4, true), (5, true), (6, true)], .alt 7 .zero .stop⟩
    | 9 => some ⟨6, [(0, true), (1, true), (2, true), (3, true), (4, true), (5, true)], .alt 6 .zero .stop⟩
    | 10 => some ⟨8, [(0, true), (1, true), (2, true), (3, true), (4, true), (5, true), (6, true), (7, true)], .alt 8 .zero .stop⟩
    | _ => none
  | 101 => match r with
    | 1 => some ⟨1, [(0, true)], .alt 1 (.alt 2 (.alt 3 (.more [(4, false)] (.alt 5 (.alt 6 .zero .stop) .stop)) .stop) .stop) (.alt 2 (.alt 1 (.alt 3 (.more [(4, false)] (.alt 5 (.alt 6 .zero .stop) .stop)) .stop) .stop) .stop)⟩
    | _ => none
  | 166 => match r with
    | 3 => some ⟨11, [(0, true), (1, true), (2, true), (3, true), (4, true), (5, true), (6, true), (7, true), (8, true), (9, true), (10, true)], .alt 11 .zero .stop⟩
    | 4 => some ⟨7, [(0, true), (1, true), (2, true), (3, true), (4, true), (5, true), (6, true)], .alt 7 .zero .stop⟩
    | _ => none
  | 167 => match r with
    | 3 => some ⟨13, [(0, true), (1, true), (2, true), (3, true), (4, true), (5, true), (6, true), (7, true), (8, true), (9, true), (10, true), (11, true), (12, true)], .alt 13 .zero .stop⟩
    | 4 => some ⟨9, [(0, false), (2, true), (3, true), (4, true), (5, true), (6, true), (7, true)], .alt 1 (.alt 8 (.alt 9 (.more [(10, false), (11, false)] (.alt 12 .zero .stop)) .stop) .stop) (.alt 8 (.alt 1 (.alt 9 (.more [(10, false), (11, false)] (.alt 12 .zero .stop)) .stop) (.alt 9 (.alt 1 (.more [(10, false), (11, false)] (.alt 12 .zero .stop)) .stop) .stop)) .stop)⟩
    | _ => none
  | 168 => match r with
    | 1 => some ⟨29, [(0, true), (1, true), (2, true), (3, true), (4, true), (5, true), (6, true), (7, true), (8, true), (9, true), (10, true), (11, false), (12, true), (13, true), (14, true), (15, true), (16, true), (17, true), (18, true), (19, true), (20, true), (21, true), (22, true), (23, true), (24, true), (25, true), (26, true), (27, true), (28, true)], .alt 29 (.more [(30, false)] (.alt 31 .zero .stop)) .stop⟩
    | 2 => some ⟨30, [(0, true), (1, true), (2, true), (3, true), (4, true), (5, true), (6, true), (7, true), (8, true), (9, true), (10, true), (11, true), (12, true), (13, true), (14, true), (15, true), (16, true), (17, true), (18, true), (19, true), (20, true), (21, true), (22, true), (23, true), (24, true), (25, true), (26, true), (27, true), (28, false), (29, false)], .alt 30 (.more [(31, false)] (.alt 32 (.alt 33 (.more [(34, false)] (.alt 35 .zero .stop)) .stop) .stop)) .stop⟩
    | _ => none
  | _ => none

def hooks (f : FuncId) : Option (List Value → SH → Nat → Option (Value × SH × Nat)) :=
  if f = fSorted then some (sortedH its 9) else if f = fRepeat then some repeatH else if f = 15 then some trueH else none
theorem hz : zcB Try.prog Try.prog.types.size = true := by kernel_rfl
theorem hm : Try.prog.follows .mixedOrders = true := by kernel_rfl
theorem hp : plansOk Try.prog plans = true := by kernel_rfl
theorem hk : ∀ f h, hooks f = some h → CallOk Try.prog (fun f' args S d => if f' = f then h args S d else none) := fun f h e => by
  unfold hooks at e
  split at e
  · rename_i hf; cases e; subst hf
    exact sortedH_ok Try.underlying9 sortedSays
  split at e
  · rename_i hf; cases e; subst hf
    exact repeatH_ok repeatSays
  split at e
  · rename_i hf; cases e; subst hf
    exact trueH_ok wakesSays
  · cases e
theorem runs : isTrueC (csFn Try.prog Try.prog.types.size plans hooks 300 60 6 [] .nil 0) = true := by kernel_rfl

theorem own : ownKnob Try.prog.godebug = none := by kernel_rfl

theorem walk (w : World) : Calls Try.prog 6 #[] w fun e w' => e = .returned (.bool true) ∧ Below w.heap.size w w' := closed_says hz hm hp hk runs w

set_option maxRecDepth 100000 in
theorem lifted (os : Os) (started : os.Started) (H : Type) (enc : TypeId × Value → H) :
    ReturnsInHanded {} Try.checked os 6 .any (Rows.learnKnownSpec.pre6 enc Try.prog Try.f6 Rows.learnKnownRow.domain false) (Rows.learnKnownSpec.post enc Try.prog Try.f6 false true false false) := by
  refine returnsInHanded_of_change (C := Try.checked) own started (by kernel_rfl) Try.func6
    (ChangeSpec.witness6 (enc := enc) (C := Try.checked) false ⟨#[], #[], []⟩ 8 (by kernel_rfl) (by kernel_rfl) (by kernel_rfl) (by kernel_rfl)) ?_
  intro W base args ds gs before hval0 hW hcnd _
  have hval : ∀ (j : Nat) t v, Try.f6.params[j]? = some t → args[j]? = some v → Value.okWide Try.prog W .any base t v := hval0
  have hW' := hW
  obtain ⟨p, q, hA0, hV, rfl, hfz, hnd⟩ := hW
  have hA : DataW.TrodAll enc Try.prog W 0 (fun _ => true) true Try.f6.params.toList args.toList ds p := hA0
  rw [Try.params6] at hA hval
  obtain ⟨rfl, rfl, rfl⟩ := trodAll_none hA
  obtain ⟨rfl, rfl⟩ := trodVars_none hV
  clear hA0 hval0
  simp only [List.append_nil] at hW'
  refine (walk  W).mono fun e W' ⟨he, hg⟩ => ?_
  subst he
  exact ⟨_, rfl, _, _, _, [], [], [], hW', trodAll_cons_mk (shut_bool Try.underlying4 _) trodAll_mk0, trodAll_mk0, rfl, hg.frame _, fun h => by cases h⟩

theorem over : Rows.learnKnownRow.holds Try.pinned (OpenSpec.ofChange Rows.learnKnownSpec) :=
  OpenClaim.holds_of_wide 6 Try.f6 rfl rfl rfl rfl rfl rfl rfl ⟨rfl, rfl, rfl, rfl, rfl⟩ rfl rfl rfl rfl rfl (by kernel_rfl) Try.func6 (by kernel_rfl)
    (of_decide_eq_true (by kernel_rfl)) (by unfold Func.isWrapper; first | (rw [if_pos (by decide +kernel)]; kernel_rfl) | (rw [if_neg (by decide +kernel)]; exact ⟨rfl, rfl⟩))
    (fun os started H enc _ => lifted os started H enc)

/-- The statement. -/
theorem proved : Rows.LearnKnownSaid :=
  over
#print axioms proved
end Go.Proofs.Ytckejldjoajpgaa.learnKnown
