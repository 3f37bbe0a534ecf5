/- 'TableKnown': the kernel runs the evaluator over the program's own text; the evaluator is proved sound for every world. No condition. -/
import Derived.Test.YtckejldjoajpgaaGreatRows
import Derived.Test.YtckejldjoajpgaaGreatC1
import Derived.Test.YtckejldjoajpgaaGreatLps2
import Derived.WalkKit
import Derived.ProofKit
import Derived.OpenShut
namespace Go.Proofs.YtckejldjoajpgaaGreat.tableKnown
open Go Go.ChangeShapes Go.WideShapes Go.ChangeAt Go.RowKit
set_option linter.unusedVariables false

def plans (f r : Nat) : Option Plan := match f with
  | 55 => match r with
    | 1 => some ⟨11, [(0, true), (1, true), (2, true), (3, true), (4, true), (5, true), (6, true), (7, true), (8, true), (9, false)], .alt 10 (.alt 11 (.more [(12, false)] .zero) .stop) .stop⟩
    | 2 => some ⟨14, [(0, false), (1, false), (2, false), (3, false), (4, false), (5, false), (8, false), (9, false), (10, false)], .alt 6 (.alt 7 (.alt 11 (.more [(12, false), (13, false)] .zero) .stop) (.alt 11 (.alt 7 (.more [(12, false), (13, false)] .zero) .stop) .stop)) (.alt 11 (.alt 6 (.alt 7 (.more [(12, false), (13, false)] .zero) .stop) .stop) .stop)⟩
    | 7 => some ⟨7, [(0, true), (1, true), (2, true), (3, true), (4, true), (5, true), (6, true)], .alt 7 .zero .stop⟩
    | 9 => some ⟨6, [(0, true), (1, true), (2, true), (3, true), (4, true), (5, true)], .alt 6 .zero .stop⟩
    | 10 => some ⟨8, [(0, true), (1, true), (2, true), (3, true), (4, true), (5, true), (6, true), (7, true)], .alt 8 .zero .stop⟩
    | _ => none
  | 71 => match r with
    | 1 => some ⟨11, [(0, true), (1, true), (2, true), (3, true), (4, true), (5, true), (6, true), (7, true), (8, true), (9, false)], .alt 10 (.alt 11 (.more [(12, false)] .zero) .stop) .stop⟩
    | 2 => some ⟨14, [(0, false), (1, false), (2, false), (3, false), (4, false), (5, false), (8, false), (9, false), (10, false)], .alt 6 (.alt 7 (.alt 11 (.more [(12, false), (13, false)] .zero) .stop) (.alt 11 (.alt 7 (.more [(12, false), (13, false)] .zero) .stop) .stop)) (.alt 11 (.alt 6 (.alt 7 (.more [(12, false), (13, false)] .zero) .stop) .stop) .stop)⟩
    | 7 => some ⟨7, [(0, true), (1, true), (2, true), (3, true), (4, true), (5, true), (6, true)], .alt 7 .zero .stop⟩
    | 9 => some ⟨6, [(0, true), (1, true), (2, true), (3, true), (4, true), (5, true)], .alt 6 .zero .stop⟩
    | 10 => some ⟨8, [(0, true), (1, true), (2, true), (3, true), (4, true), (5, true), (6, true), (7, true)], .alt 8 .zero .stop⟩
    | _ => none
  | 245 => match r with
    | 1 => some ⟨16, [(0, true), (1, true), (2, true), (3, true), (4, true), (5, true), (6, true), (7, true), (8, true), (9, true), (10, true), (11, true), (12, true), (13, true), (14, true), (15, true)], .alt 16 (.more [(17, false), (18, false)] .zero) .stop⟩
    | _ => none
  | 246 => match r with
    | 3 => some ⟨11, [(0, true), (1, true), (2, true), (3, true), (4, true), (5, true), (6, true), (7, true), (8, true), (9, true), (10, true)], .alt 11 .zero .stop⟩
    | 4 => some ⟨7, [(0, true), (1, true), (2, true), (3, true), (4, true), (5, true), (6, true)], .alt 7 .zero .stop⟩
    | _ => none
  | 247 => match r with
    | 3 => some ⟨13, [(0, true), (1, true), (2, true), (3, true), (4, true), (5, true), (6, true), (7, true), (8, true), (9, true), (10, true), (11, true), (12, true)], .alt 13 .zero .stop⟩
    | 4 => some ⟨9, [(0, false), (2, true), (3, true), (4, true), (5, true), (6, true), (7, true)], .alt 1 (.alt 8 (.alt 9 (.more [(10, false), (11, false)] (.alt 12 .zero .stop)) .stop) .stop) (.alt 8 (.alt 1 (.alt 9 (.more [(10, false), (11, false)] (.alt 12 .zero .stop)) .stop) (.alt 9 (.alt 1 (.more [(10, false), (11, false)] (.alt 12 .zero .stop)) .stop) .stop)) .stop)⟩
    | _ => none
  | 248 => match r with
    | 1 => some ⟨29, [(0, true), (1, true), (2, true), (3, true), (4, true), (5, true), (6, true), (7, true), (8, true), (9, true), (10, true), (11, false), (12, true), (13, true), (14, true), (15, true), (16, true), (17, true), (18, true), (19, true), (20, true), (21, true), (22, true), (23, true), (24, true), (25, true), (26, true), (27, true), (28, true)], .alt 29 (.more [(30, false)] (.alt 31 .zero .stop)) .stop⟩
    | 2 => some ⟨30, [(0, true), (1, true), (2, true), (3, true), (4, true), (5, true), (6, true), (7, true), (8, true), (9, true), (10, true), (11, true), (12, true), (13, true), (14, true), (15, true), (16, true), (17, true), (18, true), (19, true), (20, true), (21, true), (22, true), (23, true), (24, true), (25, true), (26, true), (27, true), (28, false), (29, false)], .alt 30 (.more [(31, false)] (.alt 32 (.alt 33 (.more [(34, false)] (.alt 35 .zero .stop)) .stop) .stop)) .stop⟩
    | _ => none
  | 249 => match r with
    | 1 => some ⟨4, [(0, true), (1, true), (2, true), (3, true), (5, false), (7, false)], .alt 4 (.alt 6 (.alt 8 (.alt 9 (.alt 10 (.alt 11 (.more [(12, false)] .zero) .stop) .stop) .stop) .stop) (.alt 8 (.alt 6 (.alt 9 (.alt 10 (.alt 11 (.more [(12, false)] .zero) .stop) .stop) .stop) .stop) .stop)) (.alt 6 (.alt 4 (.alt 8 (.alt 9 (.alt 10 (.alt 11 (.more [(12, false)] .zero) .stop) .stop) .stop) .stop) (.alt 8 (.alt 4 (.alt 9 (.alt 10 (.alt 11 (.more [(12, false)] .zero) .stop) .stop) .stop) .stop) .stop)) (.alt 8 (.alt 4 (.alt 6 (.alt 9 (.alt 10 (.alt 11 (.more [(12, false)] .zero) .stop) .stop) .stop) .stop) (.alt 6 (.alt 4 (.alt 9 (.alt 10 (.alt 11 (.more [(12, false)] .zero) .stop) .stop) .stop) .stop) .stop)) .stop))⟩
    | _ => none
  | _ => none

def hooks (f : FuncId) : Option (List Value → SH → Nat → Option (Value × SH × Nat)) :=
  if f = fSorted then some (sortedH its 9) else if f = fRepeat then some repeatH else none
theorem hz : zcB Tryz.prog Tryz.prog.types.size = true := by kernel_rfl
theorem hm : Tryz.prog.follows .mixedOrders = true := by kernel_rfl
theorem hp : plansOk Tryz.prog plans = true := by kernel_rfl
theorem hk : ∀ f h, hooks f = some h → CallOk Tryz.prog (fun f' args S d => if f' = f then h args S d else none) := fun f h e => by
  unfold hooks at e
  split at e
  · rename_i hf; cases e; subst hf
    exact sortedH_ok Tryz.underlying9 sortedSays
  split at e
  · rename_i hf; cases e; subst hf
    exact repeatH_ok repeatSays
  · cases e
theorem runs : isTrue (evFn Tryz.prog Tryz.prog.types.size plans hooks 300 60 3 [] .nil 0) = true := by kernel_rfl

theorem own : ownKnob Tryz.prog.godebug = none := by kernel_rfl

theorem walk (w : World) : Calls Tryz.prog 3 #[] w fun e w' => e = .returned (.bool true) ∧ Below w.heap.size w w' := closed_below hz hm hp hk runs w

set_option maxRecDepth 100000 in
theorem lifted (os : Os) (started : os.Started) (H : Type) (enc : TypeId × Value → H) :
    ReturnsInHanded {} Tryz.checked os 3 .any (Rows.tableKnownSpec.pre6 enc Tryz.prog Tryz.f3 Rows.tableKnownRow.domain false) (Rows.tableKnownSpec.post enc Tryz.prog Tryz.f3 false true false false) := by
  refine returnsInHanded_of_change (C := Tryz.checked) own started (by kernel_rfl) Tryz.func3
    (ChangeSpec.witness6 (enc := enc) (C := Tryz.checked) false ⟨#[], #[], []⟩ 8 (by kernel_rfl) (by kernel_rfl) (by kernel_rfl) (by kernel_rfl)) ?_
  intro W base args ds gs before hval0 hW hcnd _
  have hval : ∀ (j : Nat) t v, Tryz.f3.params[j]? = some t → args[j]? = some v → Value.okWide Tryz.prog W .any base t v := hval0
  have hW' := hW
  obtain ⟨p, q, hA0, hV, rfl, hfz, hnd⟩ := hW
  have hA : DataW.TrodAll enc Tryz.prog W 0 (fun _ => true) true Tryz.f3.params.toList args.toList ds p := hA0
  rw [Tryz.params3] at hA hval
  obtain ⟨rfl, rfl, rfl⟩ := trodAll_none hA
  obtain ⟨rfl, rfl⟩ := trodVars_none hV
  clear hA0 hval0
  simp only [List.append_nil] at hW'
  refine (walk  W).mono fun e W' ⟨he, hg⟩ => ?_
  subst he
  exact ⟨_, rfl, _, _, _, [], [], [], hW', trodAll_cons_mk (shut_bool Tryz.underlying4 _) trodAll_mk0, trodAll_mk0, rfl, hg.frame _, fun h => by cases h⟩

theorem over : Rows.tableKnownRow.holds Tryz.pinned (OpenSpec.ofChange Rows.tableKnownSpec) :=
  OpenClaim.holds_of_wide 3 Tryz.f3 rfl rfl rfl rfl rfl rfl rfl ⟨rfl, rfl, rfl, rfl, rfl⟩ rfl rfl rfl rfl rfl (by kernel_rfl) Tryz.func3 (by kernel_rfl)
    (of_decide_eq_true (by kernel_rfl)) (by unfold Func.isWrapper; first | (rw [if_pos (by decide +kernel)]; kernel_rfl) | (rw [if_neg (by decide +kernel)]; exact ⟨rfl, rfl⟩))
    (fun os started H enc _ => lifted os started H enc)

/-- The statement. -/
theorem proved : Rows.TableKnownSaid :=
  over
#print axioms proved
end Go.Proofs.YtckejldjoajpgaaGreat.tableKnown
