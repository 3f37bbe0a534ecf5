/-
  No cell of these rows narrows 'for every input' (looked for: loops, veiled, ifaces, maps, wideKeys, modest, calm, conditions, laid).
  DERIVED. THE GIVEN ROWS OF THIS SEAT. 4 by the template 'for every input the law returns true; each argument reads behind the call as it read before'; 0 by the template 'total and deterministic' (their statements: YtckejldjoajpgaaTotals.lean).
  GIVEN WITH THE SEED: the statements are not yours to turn. If you find one false, say at which input.
  Laid BY PROGRAM, IN A SANDBOX (cutbox-rows.mjs): the forced cells as the released guide's own fill.sh prints them over the translation 7240c117530e8644… (all of the seat's roots in one cut). By AI agents, Wed Nov 11 2026. No macro, syntax, notation, axiom, sorry.
-/
import Derived.Test.YtckejldjoajpgaaChecked
import GoSem.Claim
import GoSem.ClaimJoined
import GoSem.ClaimMapViews
import Derived.JoinedTies
import Derived.KernelRfl
namespace Go.Proofs.Ytckejldjoajpgaa
/- THE CELL 'sum', in the pinned program and in every row, IS THE sha256 OF THE DUMP (.gsa) THAT YtckejldjoajpgaaProg.lean LOADS. Nothing in Lean hashes anything: it is a label: what it is worth is what the hold of that sum in a sandbox is worth. -/
noncomputable def Try.pinned : Pinned := { name := "ytckejldjoajpgaa", sum := "7240c117530e8644c1fa666646238b93fb0b5775e2cb6eb3267456e68e9ca3a8", checked := Try.checked }
namespace Rows
def none {H : Type} : Left H := { results := [], args := [] }

/-- 'tolllaw21.LearnFull': WHATEVER THE INPUT: true; the input reads as it did. -/
def learnFullSpec : ChangeSpec := { name := "learnFull", fn := fun _ => fun
  | [d1, d2] => { results := [.lit (.bool true)], args := [d1, d2] }
  | _ => none }
def learnFullRow : OpenClaim := { program := "ytckejldjoajpgaa", sum := "7240c117530e8644c1fa666646238b93fb0b5775e2cb6eb3267456e68e9ca3a8", func := "toll/tolllaw21.LearnFull", spec := "learnFull", unfollowed := true, recurses := true, apart := false }
def LearnFullSaid : Prop := learnFullRow.holds Try.pinned (OpenSpec.ofChange learnFullSpec)

/-- ITS FALSE NEIGHBOUR: 'it returns false'. Refute it at one input. -/
def learnFullWrong : ChangeSpec := { name := "learnFull", fn := fun _ => fun
  | [d1, d2] => { results := [.lit (.bool false)], args := [d1, d2] }
  | _ => none }
def LearnFullWrongFalsely : Prop := learnFullRow.holds Try.pinned (OpenSpec.ofChange learnFullWrong)

/-- 'tolllaw21.LearnFixed': WHATEVER THE INPUT: true; the input reads as it did. -/
def learnFixedSpec : ChangeSpec := { name := "learnFixed", fn := fun _ => fun
  | [d1, d2, d3] => { results := [.lit (.bool true)], args := [d1, d2, d3] }
  | _ => none }
def learnFixedRow : OpenClaim := { program := "ytckejldjoajpgaa", sum := "7240c117530e8644c1fa666646238b93fb0b5775e2cb6eb3267456e68e9ca3a8", func := "toll/tolllaw21.LearnFixed", spec := "learnFixed", unfollowed := true, recurses := true, apart := false }
def LearnFixedSaid : Prop := learnFixedRow.holds Try.pinned (OpenSpec.ofChange learnFixedSpec)

/-- ITS FALSE NEIGHBOUR: 'it returns false'. Refute it at one input. -/
def learnFixedWrong : ChangeSpec := { name := "learnFixed", fn := fun _ => fun
  | [d1, d2, d3] => { results := [.lit (.bool false)], args := [d1, d2, d3] }
  | _ => none }
def LearnFixedWrongFalsely : Prop := learnFixedRow.holds Try.pinned (OpenSpec.ofChange learnFixedWrong)

/-- 'tolllaw18.ChainKnown': WHATEVER THE INPUT: true; the input reads as it did. -/
def chainKnownSpec : ChangeSpec := { name := "chainKnown", fn := fun _ => fun
  | [] => { results := [.lit (.bool true)], args := [] }
  | _ => none }
def chainKnownRow : OpenClaim := { program := "ytckejldjoajpgaa", sum := "7240c117530e8644c1fa666646238b93fb0b5775e2cb6eb3267456e68e9ca3a8", func := "toll/tolllaw18.ChainKnown", spec := "chainKnown", inPlace := ["slices.overlaps[toll/chain.Rule[int]]", "internal/abi.NoEscape", "internal/bytealg.MakeNoZero"], unfollowed := true, recurses := true, apart := false }
def ChainKnownSaid : Prop := chainKnownRow.holds Try.pinned (OpenSpec.ofChange chainKnownSpec)

/-- ITS FALSE NEIGHBOUR: 'it returns false'. Refute it at one input. -/
def chainKnownWrong : ChangeSpec := { name := "chainKnown", fn := fun _ => fun
  | [] => { results := [.lit (.bool false)], args := [] }
  | _ => none }
def ChainKnownWrongFalsely : Prop := chainKnownRow.holds Try.pinned (OpenSpec.ofChange chainKnownWrong)

/-- 'tolllaw21.LearnKnown': WHATEVER THE INPUT: true; the input reads as it did. -/
def learnKnownSpec : ChangeSpec := { name := "learnKnown", fn := fun _ => fun
  | [] => { results := [.lit (.bool true)], args := [] }
  | _ => none }
def learnKnownRow : OpenClaim := { program := "ytckejldjoajpgaa", sum := "7240c117530e8644c1fa666646238b93fb0b5775e2cb6eb3267456e68e9ca3a8", func := "toll/tolllaw21.LearnKnown", spec := "learnKnown", inPlace := ["maps.clone"], unfollowed := true, recurses := true, apart := false }
def LearnKnownSaid : Prop := learnKnownRow.holds Try.pinned (OpenSpec.ofChange learnKnownSpec)

/-- ITS FALSE NEIGHBOUR: 'it returns false'. Refute it at one input. -/
def learnKnownWrong : ChangeSpec := { name := "learnKnown", fn := fun _ => fun
  | [] => { results := [.lit (.bool false)], args := [] }
  | _ => none }
def LearnKnownWrongFalsely : Prop := learnKnownRow.holds Try.pinned (OpenSpec.ofChange learnKnownWrong)

/- THE SECOND FORM. 'bulk': how many values and letters a reading holds, each counted each time it is reached (what is shared counts as often as it is met; a slice's spare places count too). A statement '..UptoSaid' is the law's where the arguments, and the package variables that the reading takes, are together of bulk at most 1048576: NARROWER than '..Said'. Prove '..Said' where nothing that the law and all that it calls make is longer than what came in: it says more and counts as full. Else prove '..UptoSaid'. A law counts once. -/
mutual
def uptoBulk {H : Type} : DataW H → Nat
  | .lit (.string bytes) => bytes.length + 1
  | .lit _ => 1
  | .nil => 1
  | .ptr d => uptoBulk d + 1
  | .slice elems spare => uptoBulkAll elems + uptoBulkAll spare + 1
  | .agg parts => uptoBulkAll parts + 1
  | .iface _ d => uptoBulk d + 1
  | .map entries => uptoBulkEntries entries + 1
  | .held _ => 1
def uptoBulkAll {H : Type} : List (DataW H) → Nat
  | [] => 0
  | d :: r => uptoBulk d + uptoBulkAll r
def uptoBulkEntries {H : Type} : List (Lit × DataW H) → Nat
  | [] => 0
  | x :: r => uptoBulkEntry x + uptoBulkEntries r
def uptoBulkEntry {H : Type} : Lit × DataW H → Nat
  | (.string bytes, d) => bytes.length + uptoBulk d + 1
  | (_, d) => uptoBulk d + 1
 end
def uptoSmall : (H : Type) → List (DataW H) → Bool := fun _ ds => decide (uptoBulkAll ds ≤ 1048576)
def OpenSpec.upto (s : _root_.Go.ChangeSpec) : _root_.Go.OpenSpec := { _root_.Go.OpenSpec.ofChange s with cond := some uptoSmall }

/-- 'tolllaw21.LearnFull', WHERE WHAT IT READS IS OF BULK AT MOST 1048576: true; the input reads as it did. -/
def learnFullUptoRow : OpenClaim := { program := "ytckejldjoajpgaa", sum := "7240c117530e8644c1fa666646238b93fb0b5775e2cb6eb3267456e68e9ca3a8", func := "toll/tolllaw21.LearnFull", spec := "learnFull", unfollowed := true, recurses := true, apart := false, narrowed := true }
def LearnFullUptoSaid : Prop := learnFullUptoRow.holds Try.pinned (OpenSpec.upto learnFullSpec)

/-- 'tolllaw21.LearnFixed', WHERE WHAT IT READS IS OF BULK AT MOST 1048576: true; the input reads as it did. -/
def learnFixedUptoRow : OpenClaim := { program := "ytckejldjoajpgaa", sum := "7240c117530e8644c1fa666646238b93fb0b5775e2cb6eb3267456e68e9ca3a8", func := "toll/tolllaw21.LearnFixed", spec := "learnFixed", unfollowed := true, recurses := true, apart := false, narrowed := true }
def LearnFixedUptoSaid : Prop := learnFixedUptoRow.holds Try.pinned (OpenSpec.upto learnFixedSpec)

/-- 'tolllaw18.ChainKnown', WHERE WHAT IT READS IS OF BULK AT MOST 1048576: true; the input reads as it did. -/
def chainKnownUptoRow : OpenClaim := { program := "ytckejldjoajpgaa", sum := "7240c117530e8644c1fa666646238b93fb0b5775e2cb6eb3267456e68e9ca3a8", func := "toll/tolllaw18.ChainKnown", spec := "chainKnown", inPlace := ["slices.overlaps[toll/chain.Rule[int]]", "internal/abi.NoEscape", "internal/bytealg.MakeNoZero"], unfollowed := true, recurses := true, apart := false, narrowed := true }
def ChainKnownUptoSaid : Prop := chainKnownUptoRow.holds Try.pinned (OpenSpec.upto chainKnownSpec)

/-- 'tolllaw21.LearnKnown', WHERE WHAT IT READS IS OF BULK AT MOST 1048576: true; the input reads as it did. -/
def learnKnownUptoRow : OpenClaim := { program := "ytckejldjoajpgaa", sum := "7240c117530e8644c1fa666646238b93fb0b5775e2cb6eb3267456e68e9ca3a8", func := "toll/tolllaw21.LearnKnown", spec := "learnKnown", inPlace := ["maps.clone"], unfollowed := true, recurses := true, apart := false, narrowed := true }
def LearnKnownUptoSaid : Prop := learnKnownUptoRow.holds Try.pinned (OpenSpec.upto learnKnownSpec)

end Rows
end Go.Proofs.Ytckejldjoajpgaa
