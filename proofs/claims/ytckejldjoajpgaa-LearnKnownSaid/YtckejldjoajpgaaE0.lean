/- Whether two shadows are the same. Nothing of the program. -/
import Derived.Test.YtckejldjoajpgaaE15
namespace Go.Proofs.Ytckejldjoajpgaa
open Go
set_option linter.all false

def all2 {α : Type} (f : α → α → Bool) : List α → List α → Bool
  | [], [] => true
  | a :: l, b :: m => f a b && all2 f l m
  | _, _ => false

theorem all2_eq {α : Type} {f : α → α → Bool} (hf : ∀ a b, f a b = true → a = b) : ∀ {l m : List α}, all2 f l m = true → l = m
  | [], [], _ => rfl
  | a :: l, b :: m, h => by
    simp only [all2, Bool.and_eq_true] at h
    rw [hf a b h.1, all2_eq hf h.2]
  | [], _ :: _, h => by simp [all2] at h
  | _ :: _, [], h => by simp [all2] at h

def veq : Nat → Value → Value → Bool
  | 0, _, _ => false
  | n + 1, a, b => match a, b with
    | .bool x, .bool y => x == y
    | .int k x, .int l y => k == l && x == y
    | .string x, .string y => x.data.toList == y.data.toList
    | .pointer x, .pointer y => x == y
    | .slice x l c, .slice y m d => x == y && l == m && c == d
    | .map x, .map y => x == y
    | .nilFunc, .nilFunc => true
    | .nilIface, .nilIface => true
    | .func f x c, .func h y d => f == h && all2 (veq n) x.toList y.toList && all2 (veq n) c.toList d.toList
    | .iface t v, .iface u w => t == u && veq n v w
    | .agg x, .agg y => all2 (veq n) x.toList y.toList
    | .tuple x, .tuple y => all2 (veq n) x.toList y.toList
    | _, _ => false

theorem arr_of_list {α : Type} {x y : Array α} (h : x.toList = y.toList) : x = y := Array.ext' h

theorem veq_eq : ∀ (n : Nat) (a b : Value), veq n a b = true → a = b := by
  intro n
  induction n with
  | zero => intro a b h; simp [veq] at h
  | succ n ih =>
    intro a b h
    have L : ∀ {x y : Array Value}, all2 (veq n) x.toList y.toList = true → x = y := fun h => arr_of_list (all2_eq ih h)
    cases a <;> cases b <;> simp only [veq, Bool.and_eq_true, beq_iff_eq] at h <;> first
      | (cases h; done)
      | rfl
      | (rw [h])
      | (rw [h.1, h.2])
      | (rw [h.1.1, h.1.2, h.2])
      | (rw [L h])
      | (rw [h.1, ih _ _ h.2])
      | (rw [h.1.1, L h.1.2, L h.2])
      | (congr 1; rename_i x y; obtain ⟨x⟩ := x; obtain ⟨y⟩ := y; exact congrArg ByteArray.mk (arr_of_list h))

def eeq (a b : MapEntry) : Bool := veq 6 a.key b.key && veq 6 a.val b.val && a.born == b.born
theorem eeq_eq (a b : MapEntry) (h : eeq a b = true) : a = b := by
  simp only [eeq, Bool.and_eq_true, beq_iff_eq] at h
  obtain ⟨k, v, n⟩ := a
  obtain ⟨k', v', n'⟩ := b
  simp only at h
  rw [veq_eq _ _ _ h.1.1, veq_eq _ _ _ h.1.2, h.2]

def oeq : SO → SO → Bool
  | .cells c t, .cells d u => all2 (veq 6) c d && t == u
  | .row c t s, .row d u z => all2 (veq 6) c d && t == u && s == z
  | .map e c, .map f d => all2 eeq e f && c == d
  | .siter s p, .siter t q => s.data.toList == t.data.toList && p == q
  | .dead, .dead => true
  | _, _ => false
theorem oeq_eq (a b : SO) (h : oeq a b = true) : a = b := by
  cases a <;> cases b <;> simp only [oeq, Bool.and_eq_true, beq_iff_eq] at h <;> first
    | (cases h; done)
    | rfl
    | (rw [all2_eq (veq_eq 6) h.1, h.2])
    | (rw [all2_eq (veq_eq 6) h.1.1, h.1.2, h.2])
    | (rw [all2_eq eeq_eq h.1, h.2])
    | (rename_i x _ y _; obtain ⟨x⟩ := x; obtain ⟨y⟩ := y; rw [show (ByteArray.mk x) = ByteArray.mk y from congrArg ByteArray.mk (arr_of_list h.1), h.2])

def ooeq : Option SO → Option SO → Bool
  | none, none => true
  | some a, some b => oeq a b
  | _, _ => false
theorem ooeq_eq (a b : Option SO) (h : ooeq a b = true) : a = b := by
  cases a <;> cases b <;> simp only [ooeq] at h <;> first | (cases h; done) | rfl | rw [oeq_eq _ _ h]

def teq : SH → SH → Bool
  | .nil, .nil => true
  | .node a l r, .node b m s => ooeq a b && teq l m && teq r s
  | _, _ => false
theorem teq_eq : ∀ (a b : SH), teq a b = true → a = b
  | .nil, .nil, _ => rfl
  | .node a l r, .node b m s, h => by
    simp only [teq, Bool.and_eq_true] at h
    rw [ooeq_eq _ _ h.1.1, teq_eq _ _ h.1.2, teq_eq _ _ h.2]
  | .nil, .node _ _ _, h => by simp [teq] at h
  | .node _ _ _, .nil, h => by simp [teq] at h

abbrev Res := List Value × SH × Nat
def resEq (a b : Res) : Bool := all2 (veq 6) a.1 b.1 && teq a.2.1 b.2.1 && a.2.2 == b.2.2
theorem resEq_eq {a b : Res} (h : resEq a b = true) : a = b := by
  simp only [resEq, Bool.and_eq_true, beq_iff_eq] at h
  obtain ⟨x, y, z⟩ := a
  obtain ⟨x', y', z'⟩ := b
  simp only at h
  rw [all2_eq (veq_eq 6) h.1.1, teq_eq _ _ h.1.2, h.2]

/-- The one, if the other one is the same. -/
def both (a b : Option Res) : Option Res := match a, b with
  | some x, some y => if resEq x y then some x else none
  | _, _ => none
theorem both_some {a b : Option Res} {x : Res} (h : both a b = some x) : a = some x ∧ b = some x := by
  unfold both at h
  split at h
  · split at h
    · rename_i y z he
      cases h
      rw [resEq_eq he]
      exact ⟨rfl, rfl⟩
    · cases h
  · cases h
end Go.Proofs.Ytckejldjoajpgaa
