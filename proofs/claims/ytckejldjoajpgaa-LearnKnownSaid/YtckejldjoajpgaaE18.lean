/- Names that are forgotten. Nothing of the program. -/
import Derived.Test.YtckejldjoajpgaaE17
namespace Go.Proofs.Ytckejldjoajpgaa
open Go
set_option linter.all false

/-- The names of S alone. -/
def Gm.restr (g : Gm) (S : SH) : Gm := fun r => if (S.get r).isSome then g r else none

/-- All names of a value are in S. -/
def vIn (S : SH) : Nat → Value → Bool
  | 0, _ => false
  | n + 1, v => match v with
    | .pointer (some a) => (S.get a.block).isSome
    | .slice (some a) _ _ => (S.get a.block).isSome
    | .map (some r) => (S.get r).isSome
    | .chan (some _) => false
    | .func _ f c => f.toList.all (vIn S n) && c.toList.all (vIn S n)
    | .iface _ v => vIn S n v
    | .agg cs | .tuple cs => cs.toList.all (vIn S n)
    | _ => true

theorem vIn_mem {S : SH} {n : Nat} {c : Array Value} (h : c.toList.all (vIn S n) = true) {i : Nat} {v : Value} (hi : c[i]? = some v) : vIn S n v = true :=
  List.all_eq_true.1 h _ (by rw [← Array.getElem?_toList] at hi; exact List.mem_of_getElem? hi)

theorem VR.restr {g : Gm} {S : SH} {v v' : Value} (h : VR g v v') : ∀ {n : Nat}, vIn S n v = true → VR (g.restr S) v v' := by
  induction h with
  | closed e => intro n _; exact .closed e
  | @ptr r o x e =>
    intro n h
    cases n with
    | zero => cases h
    | succ n => exact .ptr (by simp only [vIn] at h; simp only [Gm.restr, h, if_true]; exact e)
  | @slice r o l c x e hn =>
    intro n h
    cases n with
    | zero => cases h
    | succ n => exact .slice (by simp only [vIn] at h; simp only [Gm.restr, h, if_true]; exact e) hn
  | @sliceU r o l x e hn =>
    intro n h
    cases n with
    | zero => cases h
    | succ n => exact .sliceU (by simp only [vIn] at h; simp only [Gm.restr, h, if_true]; exact e) hn
  | @map r x e =>
    intro n h
    cases n with
    | zero => cases h
    | succ n => exact .map (by simp only [vIn] at h; simp only [Gm.restr, h, if_true]; exact e)
  | func s _ ih =>
    intro n h
    cases n with
    | zero => cases h
    | succ n =>
      simp only [vIn, Bool.and_eq_true] at h
      exact .func s fun i v v' h1 h2 => ih i v v' h1 h2 (vIn_mem h.2 h1)
  | iface _ ih =>
    intro n h
    cases n with
    | zero => cases h
    | succ n => exact .iface (ih (by simpa only [vIn] using h))
  | agg s _ ih =>
    intro n h
    cases n with
    | zero => cases h
    | succ n => exact .agg s fun i v v' h1 h2 => ih i v v' h1 h2 (vIn_mem (by simpa only [vIn] using h) h1)
  | tuple s _ ih =>
    intro n h
    cases n with
    | zero => cases h
    | succ n => exact .tuple s fun i v v' h1 h2 => ih i v v' h1 h2 (vIn_mem (by simpa only [vIn] using h) h1)

theorem LR.restr {g : Gm} {S : SH} {n : Nat} {c c' : List Value} (h : LR g c c') (hc : c.all (vIn S n) = true) : LR (g.restr S) c c' :=
  ⟨h.1, fun i v v' a b => (h.2 i v v' a b).restr (List.all_eq_true.1 hc _ (List.mem_of_getElem? a))⟩

def oIn (S : SH) : SO → Bool
  | .cells c _ | .row c _ _ => c.all (vIn S 8)
  | .map es _ => es.all fun e => vIn S 8 e.val
  | .siter _ _ => true
  | .miter m _ _ _ => (S.get m).isSome
  | .dead => true

theorem OR.restr {g : Gm} {S : SH} {o : SO} {x : Nm} {ob : Option Obj} (h : OR g o x ob) (hi : oIn S o = true) : OR (g.restr S) o x ob := by
  cases o with
  | cells c t => obtain ⟨cs, fr, a, b, c⟩ := h; exact ⟨cs, fr, a, b.restr hi, c⟩
  | row c t sz => obtain ⟨cs, fr, a, b, c⟩ := h; exact ⟨cs, fr, a, b.restr hi, c⟩
  | map es c =>
    obtain ⟨es', a, b⟩ := h
    refine ⟨es', a, ?_⟩
    simp only [oIn] at hi
    clear a
    revert hi
    generalize es'.toList = l' at b
    induction b with
    | nil => intro _; exact .nil
    | cons hx _ ih =>
      intro hi
      simp only [List.all_cons, Bool.and_eq_true] at hi
      exact .cons ⟨hx.1, hx.2.1, hx.2.2.1, hx.2.2.2.restr hi.1⟩ (ih hi.2)
  | siter s p => exact h
  | miter m s se st =>
    obtain ⟨y, a, b⟩ := h
    exact ⟨y, by simp only [oIn] at hi; simp only [Gm.restr, hi, if_true]; exact a, b⟩
  | dead => trivial

/-- What T has under the names of S. -/
def keepIn : SH → SH → SH
  | .node v l r, .node v' l' r' => .node (if v.isSome then v' else none) (keepIn l l') (keepIn r r')
  | _, _ => .nil

theorem keepIn_get : ∀ (S T : SH) (r : Nat), (keepIn S T).get r = if (S.get r).isSome then T.get r else none := by
  intro S
  induction S with
  | nil => intro T r; cases T <;> simp [keepIn, Tr.get]
  | node v l r ihl ihr =>
    intro T q
    cases T with
    | nil =>
      show none = if ((Tr.node v l r).get q).isSome = true then none else none
      rw [ite_self]
    | node v' l' r' =>
      cases q with
      | zero => rfl
      | succ q =>
        simp only [keepIn, Tr.get]
        split
        · exact ihl _ _
        · exact ihr _ _

def allIn (S : SH) : SH → Bool
  | .nil => true
  | .node v l r => (match v with | some o => oIn S o | none => true) && allIn S l && allIn S r

theorem allIn_get {S : SH} : ∀ {T : SH}, allIn S T = true → ∀ {r : Nat} {o : SO}, T.get r = some o → oIn S o = true := by
  intro T
  induction T with
  | nil => intro _ r o h; cases h
  | node v l r ihl ihr =>
    intro h q o e
    simp only [allIn, Bool.and_eq_true] at h
    cases q with
    | zero => simp only [Tr.get] at e; subst e; exact h.1.1
    | succ q =>
      simp only [Tr.get] at e
      split at e
      · exact ihl h.1.2 e
      · exact ihr h.2 e

section
variable {w0 w : World} {g : Gm} {S : SH}

theorem restr_some {S : SH} {r : Nat} {x : Nm} (h : g.restr S r = some x) : g r = some x ∧ (S.get r).isSome = true := by
  unfold Gm.restr at h
  split at h
  · exact ⟨h, by assumption⟩
  · cases h

/-- Names are forgotten. -/
theorem Sim.forget {T : SH} (h : Sim w0 g T w) (S : SH) (hi : allIn (keepIn S T) (keepIn S T) = true) : Sim w0 (g.restr (keepIn S T)) (keepIn S T) w where
  kn := h.kn
  base r x e := h.base r x (restr_some e).1
  live r o e := by
    have e2 := e
    rw [keepIn_get] at e2
    split at e2
    case isFalse => cases e2
    obtain ⟨x, hx, ho⟩ := h.live r o e2
    exact ⟨x, by simp [Gm.restr, e, hx], ho.restr (allIn_get hi e)⟩
  dom r x e := Option.isSome_iff_exists.1 (restr_some e).2
  inj a b oa ob xa xb ha la hb lb ga gb e := by
    rw [keepIn_get] at ha hb
    split at ha
    case isFalse => cases ha
    split at hb
    case isFalse => cases hb
    exact h.inj a b oa ob xa xb ha la hb lb (restr_some ga).1 (restr_some gb).1 e

theorem Sim.forget_le {T : SH} {g' : Gm} {w1 : World} (h0 : Sim w0 g S w1) (h : Sim w0 g' T w) (le : g.le g') : g.le (g'.restr (keepIn S T)) := fun r x e => by
  obtain ⟨o, ho⟩ := h0.dom r x e
  obtain ⟨o', ho'⟩ := h.dom r x (le r x e)
  have : (keepIn S T).get r = some o' := by rw [keepIn_get, ho]; exact ho'
  simp [Gm.restr, this, le r x e]
end
end Go.Proofs.Ytckejldjoajpgaa
