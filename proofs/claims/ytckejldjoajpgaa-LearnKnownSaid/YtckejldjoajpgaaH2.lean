/- strings.Repeat on the shadow: out of its contract; several hooks as one. Nothing of the program. -/
import Derived.Test.YtckejldjoajpgaaE17
import Derived.Shelf.Strings.Repeat
namespace Go.Proofs.Ytckejldjoajpgaa
open Go
set_option linter.all false

def repB (l : List UInt8) : Nat → List UInt8
  | 0 => []
  | n + 1 => l ++ repB l n

def repeatH (args : List Value) (S : SH) (d : Nat) : Option (Value × SH × Nat) := match args with
  | [.string s, .int .i64 n] => if Nat.ble (s.data.toList.length * n.toNat) 1000000 && decide (0 ≤ n) && decide (n ≤ 1000000) then some (.string ⟨(repB s.data.toList n.toNat).toArray⟩, S, d) else none
  | _ => none

def RepeatSays (P : Program) (f : FuncId) : Prop := ∀ (s : ByteArray) (c : Nat) (w : World), c ≤ 9223372036854775807 → s.size * c ≤ 140737488355328 →
    Calls P f #[.string s, .int .i64 c] w fun e w' => e = .returned (.string ⟨(Lib.repeatL s.data.toList c).toArray⟩) ∧ Go.RowKit.Below w.heap.size w w'

theorem repB_eq (l : List UInt8) : ∀ n, repB l n = Lib.repeatL l n := by
  intro n
  induction n with
  | zero => simp [repB, Lib.repeatL]
  | succ n ih => simp [repB, Lib.repeatL, ih, List.replicate_succ]

theorem repeatH_ok {P : Program} {f : FuncId} (hc : RepeatSays P f) : CallOk P (fun f' args S d => if f' = f then repeatH args S d else none) := by
  intro f' args S d v S' d' e w0 g w args' h hl
  simp only [] at e
  split at e
  case isFalse => cases e
  rename_i hf'
  subst hf'
  unfold repeatH at e
  split at e
  case h_2 => cases e
  rename_i s n
  split at e
  case isFalse => cases e
  rename_i hcond
  cases e
  simp only [Bool.and_eq_true, Nat.ble_eq, decide_eq_true_eq] at hcond
  obtain ⟨⟨h1, h2⟩, h3⟩ := hcond
  have hargs' : args' = [.string s, .int .i64 n] := by
    have hlen := hl.1
    match args', hlen with
    | [a, b], _ =>
      have ha := (hl.2 0 _ _ rfl rfl).string_inv
      have hb := (hl.2 1 _ _ rfl rfl).int_inv
      rw [ha, hb]
  subst hargs'
  have hn : (n.toNat : Int) = n := Int.toNat_of_nonneg h2
  have hsz : s.size = s.data.toList.length := rfl
  have := hc s n.toNat w (by omega) (by rw [hsz]; omega)
  rw [hn] at this
  refine Calls.mono this ?_
  rintro e w' ⟨rfl, hb⟩
  exact ⟨_, g, rfl, g.le_refl, by rw [repB_eq]; exact .closed (n := 1) rfl, h.kept (Kp.of_below hb)⟩

end Go.Proofs.Ytckejldjoajpgaa
