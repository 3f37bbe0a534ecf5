/- 'toll/tolllaw21.wakes' returns true in every world: the kernel runs the evaluator. -/
import Derived.Test.YtckejldjoajpgaaRows
import Derived.Test.YtckejldjoajpgaaC2
import Derived.Test.YtckejldjoajpgaaLps1
namespace Go.Proofs.Ytckejldjoajpgaa
open Go Go.RowKit

def plansW (f r : Nat) : Option Plan := match f with
  | 11 => match r with
    | 4 => some ⟨6, [(0, false), (1, false), (2, false), (4, true), (5, true), (7, false)], .alt 3 (.alt 6 (.alt 8 (.more [(9, false), (10, false), (11, false)] (.alt 12 (.alt 13 (.more [(14, false)] .zero) .stop) .stop)) (.alt 12 (.alt 8 (.more [(9, false), (10, false), (11, false)] (.alt 13 (.more [(14, false)] .zero) .stop)) .stop) .stop)) (.alt 12 (.alt 6 (.alt 8 (.more [(9, false), (10, false), (11, false)] (.alt 13 (.more [(14, false)] .zero) .stop)) .stop) .stop) .stop)) (.alt 6 (.alt 3 (.alt 8 (.more [(9, false), (10, false), (11, false)] (.alt 12 (.alt 13 (.more [(14, false)] .zero) .stop) .stop)) (.alt 12 (.alt 8 (.more [(9, false), (10, false), (11, false)] (.alt 13 (.more [(14, false)] .zero) .stop)) .stop) .stop)) (.alt 12 (.alt 3 (.alt 8 (.more [(9, false), (10, false), (11, false)] (.alt 13 (.more [(14, false)] .zero) .stop)) .stop) .stop) .stop)) (.alt 12 (.alt 3 (.alt 6 (.alt 8 (.more [(9, false), (10, false), (11, false)] (.alt 13 (.more [(14, false)] .zero) .stop)) .stop) .stop) (.alt 6 (.alt 3 (.alt 8 (.more [(9, false), (10, false), (11, false)] (.alt 13 (.more [(14, false)] .zero) .stop)) .stop) .stop) .stop)) .stop))⟩
    | _ => none
  | 12 => match r with
    | 15 => some ⟨13, [(0, true), (1, true), (2, true), (3, true), (4, true), (5, true), (6, true), (7, true), (8, true), (9, true), (10, true), (11, true), (12, true)], .alt 13 (.more [(14, false), (15, false), (16, false)] (.alt 17 (.alt 18 (.more [(19, false)] .zero) .stop) .stop)) (.alt 17 (.alt 13 (.more [(14, false), (15, false), (16, false)] (.alt 18 (.more [(19, false)] .zero) .stop)) .stop) .stop)⟩
    | _ => none
  | 42 => match r with
    | 2 => some ⟨2, [(0, true), (1, true)], .alt 2 (.alt 3 (.more [(4, false)] .zero) .stop) .stop⟩
    | _ => none
  | 46 => match r with
    | 3 => some ⟨23, [(0, true), (1, true), (2, true), (3, true), (4, true), (5, true), (6, true), (7, true), (8, true), (9, true), (10, true), (11, true), (12, true), (16, true), (17, true), (18, true), (19, true), (20, true), (21, true)], .alt 13 (.more [(14, false)] (.alt 15 (.more [(22, false)] (.alt 23 .zero .stop)) .stop)) .stop⟩
    | _ => none
  | 77 => match r with
    | 3 => some ⟨1, [], .alt 0 (.alt 1 (.more [(2, false), (3, false)] .zero) .stop) (.alt 1 (.alt 0 (.more [(2, false), (3, false)] .zero) .stop) .stop)⟩
    | 5 => some ⟨1, [(3, false)], .alt 0 (.alt 1 (.alt 2 (.more [(4, false), (5, false)] .zero) .stop) .stop) (.alt 1 (.alt 0 (.alt 2 (.more [(4, false), (5, false)] .zero) .stop) .stop) .stop)⟩
    | _ => none
  | 79 => match r with
    | 1 => some ⟨11, [(0, true), (1, true), (2, true), (3, true), (4, true), (5, true), (6, true), (7, true), (8, true), (9, false)], .alt 10 (.alt 11 (.more [(12, false)] .zero) .stop) .stop⟩
    | 2 => some ⟨14, [(0, false), (1, false), (2, false), (3, false), (4, false), (5, false), (8, false), (9, false), (10, false)], .alt 6 (.alt 7 (.alt 11 (.more [(12, false), (13, false)] .zero) .stop) (.alt 11 (.alt 7 (.more [(12, false), (13, false)] .zero) .stop) .stop)) (.alt 11 (.alt 6 (.alt 7 (.more [(12, false), (13, false)] .zero) .stop) .stop) .stop)⟩
    | 7 => some ⟨7, [(0, true), (1, true), (2, true), (3, true), (4, true), (5, true), (6, true)], .alt 7 .zero .stop⟩
    | 9 => some ⟨6, [(0, true), (1, true), (2, true), (3, true), (4, true), (5, true)], .alt 6 .zero .stop⟩
    | 10 => some ⟨8, [(0, true), (1, true), (2, true), (3, true), (4, true), (5, true), (6, true), (7, true)], .alt 8 .zero .stop⟩
    | _ => none
  | 101 => match r with
    | 1 => some ⟨1, [(0, true)], .alt 1 (.alt 2 (.alt 3 (.more [(4, false)] (.alt 5 (.alt 6 .zero .stop) .stop)) .stop) .stop) (.alt 2 (.alt 1 (.alt 3 (.more [(4, false)] (.alt 5 (.alt 6 .zero .stop) .stop)) .stop) .stop) .stop)⟩
    | _ => none
  | 166 => match r with
    | 3 => some ⟨11, [(0, true), (1, true), (2, true), (3, true), (4, true), (5, true), (6, true), (7, true), (8, true), (9, true), (10, true)], .alt 11 .zero .stop⟩
    | 4 => some ⟨7, [(0, true), (1, true), (2, true), (3, true), (4, true), (5, true), (6, true)], .alt 7 .zero .stop⟩
    | _ => none
  | 167 => match r with
    | 3 => some ⟨13, [(0, true), (1, true), (2, true), (3, true), (4, true), (5, true), (6, true), (7, true), (8, true), (9, true), (10, true), (11, true), (12, true)], .alt 13 .zero .stop⟩
    | 4 => some ⟨9, [(0, false), (2, true), (3, true), (4, true), (5, true), (6, true), (7, true)], .alt 1 (.alt 8 (.alt 9 (.more [(10, false), (11, false)] (.alt 12 .zero .stop)) .stop) .stop) (.alt 8 (.alt 1 (.alt 9 (.more [(10, false), (11, false)] (.alt 12 .zero .stop)) .stop) (.alt 9 (.alt 1 (.more [(10, false), (11, false)] (.alt 12 .zero .stop)) .stop) .stop)) .stop)⟩
    | _ => none
  | 168 => match r with
    | 1 => some ⟨29, [(0, true), (1, true), (2, true), (3, true), (4, true), (5, true), (6, true), (7, true), (8, true), (9, true), (10, true), (11, false), (12, true), (13, true), (14, true), (15, true), (16, true), (17, true), (18, true), (19, true), (20, true), (21, true), (22, true), (23, true), (24, true), (25, true), (26, true), (27, true), (28, true)], .alt 29 (.more [(30, false)] (.alt 31 .zero .stop)) .stop⟩
    | 2 => some ⟨30, [(0, true), (1, true), (2, true), (3, true), (4, true), (5, true), (6, true), (7, true), (8, true), (9, true), (10, true), (11, true), (12, true), (13, true), (14, true), (15, true), (16, true), (17, true), (18, true), (19, true), (20, true), (21, true), (22, true), (23, true), (24, true), (25, true), (26, true), (27, true), (28, false), (29, false)], .alt 30 (.more [(31, false)] (.alt 32 (.alt 33 (.more [(34, false)] (.alt 35 .zero .stop)) .stop) .stop)) .stop⟩
    | _ => none
  | _ => none

def hooksW (f : FuncId) : Option (List Value → SH → Nat → Option (Value × SH × Nat)) :=
  if f = fSorted then some (sortedH its 9) else none
theorem hzW : zcB Try.prog Try.prog.types.size = true := by kernel_rfl
theorem hmW : Try.prog.follows .mixedOrders = true := by kernel_rfl
theorem hpW : plansOk Try.prog plansW = true := by kernel_rfl
theorem hkW : ∀ f h, hooksW f = some h → CallOk Try.prog (fun f' args S d => if f' = f then h args S d else none) := fun f h e => by
  unfold hooksW at e
  split at e
  · rename_i hf; cases e; subst hf
    exact sortedH_ok Try.underlying9 sortedSays
  · cases e
theorem runsW : isTrueC (csFn Try.prog Try.prog.types.size plansW hooksW 300 60 15 [] .nil 0) = true := by kernel_rfl
theorem wakesSays : SaysTrue Try.prog 15 := closed_says hzW hmW hpW hkW runsW
end Go.Proofs.Ytckejldjoajpgaa
