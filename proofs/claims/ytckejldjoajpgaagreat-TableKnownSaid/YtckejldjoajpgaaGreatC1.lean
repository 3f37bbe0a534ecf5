/- A closed statement, out of the kernel's run of the evaluator. Nothing of the program. -/
import Derived.Test.YtckejldjoajpgaaGreatE17
namespace Go.Proofs.YtckejldjoajpgaaGreat
open Go Go.RowKit
set_option linter.all false

def isTrue : Option (Value × SH × Nat) → Bool
  | some (.bool true, _, _) => true
  | _ => false

theorem isTrue_some {o : Option (Value × SH × Nat)} (h : isTrue o = true) : ∃ S d, o = some (.bool true, S, d) := by
  unfold isTrue at h
  split at h
  · exact ⟨_, _, rfl⟩
  · cases h

theorem closed_below {P : Program} {N : Nat} (hz : zcB P N = true) (hm : P.follows .mixedOrders = true) {plans : FuncId → Nat → Option Plan} (hp : plansOk P plans = true) {hooks : FuncId → Option (List Value → SH → Nat → Option (Value × SH × Nat))}
    (hh : ∀ f h, hooks f = some h → CallOk P (fun f' args S d => if f' = f then h args S d else none)) {lf n : Nat} {f : FuncId}
    (e : isTrue (evFn P N plans hooks lf n f [] .nil 0) = true) (w : World) :
    Calls P f #[] w fun e w' => e = .returned (.bool true) ∧ Below w.heap.size w w' := by
  obtain ⟨S', d', he⟩ := isTrue_some e
  refine Calls.mono (evFn_ok (zc_of hz) hm hp hh n f [] .nil 0 _ _ _ he w _ w [] (Sim.empty w) .nil) ?_
  rintro e w' ⟨v', g', rfl, _, h1, h2⟩
  rw [h1.bool_inv]
  exact ⟨rfl, h2.kn.below⟩
end Go.Proofs.YtckejldjoajpgaaGreat
