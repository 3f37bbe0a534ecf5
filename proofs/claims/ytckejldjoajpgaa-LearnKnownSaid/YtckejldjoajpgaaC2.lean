/- A closed statement, out of the kernel's run of the faster evaluator; a closed call as a hook. Nothing of the program. -/
import Derived.Test.YtckejldjoajpgaaE25
namespace Go.Proofs.Ytckejldjoajpgaa
open Go Go.RowKit
set_option linter.all false

def isTrueC : Option (Value × SH × Nat) → Bool
  | some (.bool true, _, _) => true
  | _ => false

theorem isTrueC_some {o : Option (Value × SH × Nat)} (h : isTrueC o = true) : ∃ S d, o = some (.bool true, S, d) := by
  unfold isTrueC at h
  split at h
  · exact ⟨_, _, rfl⟩
  · cases h

/-- It returns true in every world, and leaves as it is what stands. -/
def SaysTrue (P : Program) (f : FuncId) : Prop := ∀ w : World, Calls P f #[] w fun e w' => e = .returned (.bool true) ∧ Below w.heap.size w w'

theorem closed_says {P : Program} {N : Nat} (hz : zcB P N = true) (hm : P.follows .mixedOrders = true) {plans : FuncId → Nat → Option Plan} (hp : plansOk P plans = true) {hooks : FuncId → Option (List Value → SH → Nat → Option (Value × SH × Nat))}
    (hh : ∀ f h, hooks f = some h → CallOk P (fun f' args S d => if f' = f then h args S d else none)) {lf n : Nat} {f : FuncId}
    (e : isTrueC (csFn P N plans hooks lf n f [] .nil 0) = true) : SaysTrue P f := fun w => by
  obtain ⟨S', d', he⟩ := isTrueC_some e
  refine Calls.mono (csFn_ok (zc_of hz) hm hp hh n f [] .nil 0 _ _ _ he w _ w [] (Sim.empty w) .nil) ?_
  rintro e w' ⟨v', g', rfl, _, h1, h2⟩
  rw [h1.bool_inv]
  exact ⟨rfl, h2.kn.below⟩

def trueH (args : List Value) (S : SH) (d : Nat) : Option (Value × SH × Nat) := match args with
  | [] => some (.bool true, S, d)
  | _ => none

theorem trueH_ok {P : Program} {f : FuncId} (hc : SaysTrue P f) : CallOk P (fun f' args S d => if f' = f then trueH args S d else none) := by
  intro f' args S d v S' d' e w0 g w args' h hl
  simp only [] at e
  split at e
  case isFalse => cases e
  rename_i hf'
  subst hf'
  unfold trueH at e
  split at e
  case h_2 => cases e
  cases e
  have : args' = [] := List.eq_nil_of_length_eq_zero hl.1.symm
  subst this
  refine Calls.mono (hc w) ?_
  rintro e w' ⟨rfl, hb⟩
  exact ⟨_, g, rfl, g.le_refl, .closed (n := 1) rfl, h.kept (Kp.of_below hb)⟩
end Go.Proofs.Ytckejldjoajpgaa
