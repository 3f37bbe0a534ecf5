/- A shadow of memory: names in the place of blocks; what stands for what. Nothing of the program. -/
import Derived.Test.YtckejldjoajpgaaB
import Derived.Test.YtckejldjoajpgaaRg
namespace Go.Proofs.Ytckejldjoajpgaa
open Go

inductive L2 {α β : Type} (R : α → β → Prop) : List α → List β → Prop
  | nil : L2 R [] []
  | cons {a b l l'} : R a b → L2 R l l' → L2 R (a :: l) (b :: l')

theorem L2.mono {α β : Type} {R T : α → β → Prop} (h : ∀ a b, R a b → T a b) {l : List α} {l' : List β} (x : L2 R l l') : L2 T l l' := by
  induction x with
  | nil => exact .nil
  | cons a _ ih => exact .cons (h _ _ a) ih

/-- What a name stands for: a block; the cells of one element, and how many elements there are (of rows whose capacity is not known). -/
structure Nm where
  b : Nat
  sz : Nat
  n : Nat
abbrev Gm := Nat → Option Nm
def Gm.le (g h : Gm) : Prop := ∀ r x, g r = some x → h r = some x
theorem Gm.le_refl (g : Gm) : g.le g := fun _ _ h => h
theorem Gm.le_trans {g h k : Gm} (a : g.le h) (b : h.le k) : g.le k := fun r x e => b r x (a r x e)

/-- A capacity that is not known. -/
def UNK : Nat := 2 ^ 80

/-- No address within. -/
def closed : Nat → Value → Bool
  | 0, _ => false
  | n + 1, v => match v with
    | .bool _ | .int .. | .float .. | .complex .. | .string _ | .nilFunc | .nilIface | .pointer none | .slice none _ _ | .map none | .chan none => true
    | .func (.func _) f c => f.toList.all (closed n) && c.toList.all (closed n)
    | .iface _ v => closed n v
    | .agg cs | .tuple cs => cs.toList.all (closed n)
    | _ => false

/-- A shadow value stands for a value. -/
inductive VR (g : Gm) : Value → Value → Prop
  | closed {n v} : closed n v = true → VR g v v
  | ptr {r o x} : g r = some x → VR g (.pointer (some ⟨r, o, none⟩)) (.pointer (some ⟨x.b, o, none⟩))
  | slice {r o l c x} : g r = some x → c ≠ UNK → VR g (.slice (some ⟨r, o, none⟩) l c) (.slice (some ⟨x.b, o, none⟩) l c)
  | sliceU {r o l x} : g r = some x → l ≤ x.n - o / x.sz → VR g (.slice (some ⟨r, o, none⟩) l UNK) (.slice (some ⟨x.b, o, none⟩) l (x.n - o / x.sz))
  | map {r x} : g r = some x → VR g (.map (some r)) (.map (some x.b))
  | func {fn c c'} : c.size = c'.size → (∀ (i : Nat) (v v' : Value), c[i]? = some v → c'[i]? = some v' → VR g v v') → VR g (.func (.func fn) #[] c) (.func (.func fn) #[] c')
  | iface {t v v'} : VR g v v' → VR g (.iface t v) (.iface t v')
  | agg {c c'} : c.size = c'.size → (∀ (i : Nat) (v v' : Value), c[i]? = some v → c'[i]? = some v' → VR g v v') → VR g (.agg c) (.agg c')
  | tuple {c c'} : c.size = c'.size → (∀ (i : Nat) (v v' : Value), c[i]? = some v → c'[i]? = some v' → VR g v v') → VR g (.tuple c) (.tuple c')

theorem VR.mono {g h : Gm} (le : g.le h) {v v' : Value} (a : VR g v v') : VR h v v' := by
  induction a with
  | closed e => exact .closed e
  | ptr e => exact .ptr (le _ _ e)
  | slice e n => exact .slice (le _ _ e) n
  | sliceU e b => exact .sliceU (le _ _ e) b
  | map e => exact .map (le _ _ e)
  | func s _ ih => exact .func s ih
  | iface _ ih => exact .iface ih
  | agg s _ ih => exact .agg s ih
  | tuple s _ ih => exact .tuple s ih

theorem closed_mem {n : Nat} {c : Array Value} (h : c.toList.all (closed n) = true) {i : Nat} {v : Value} (hi : c[i]? = some v) : closed n v = true :=
  List.all_eq_true.1 h _ (by rw [← Array.getElem?_toList] at hi; exact List.mem_of_getElem? hi)

theorem arr_ext {c c' : Array Value} (h : c.size = c'.size) (hh : ∀ (i : Nat) (v v' : Value), c[i]? = some v → c'[i]? = some v' → v' = v) : c' = c := by
  apply Array.ext h.symm
  intro i h1 h2
  exact hh i _ _ (by simp [h2]) (by simp [h1])

/-- Of what has no address there is one only. -/
theorem VR.eq_of_closed {g : Gm} {v v' : Value} (a : VR g v v') : ∀ {n : Nat}, Go.Proofs.Ytckejldjoajpgaa.closed n v = true → v' = v := by
  induction a with
  | closed e => intros; rfl
  | ptr e => intro n h; cases n <;> simp [Go.Proofs.Ytckejldjoajpgaa.closed] at h
  | slice e n => intro n h; cases n <;> simp [Go.Proofs.Ytckejldjoajpgaa.closed] at h
  | sliceU e _ => intro n h; cases n <;> simp [Go.Proofs.Ytckejldjoajpgaa.closed] at h
  | map e => intro n h; cases n <;> simp [Go.Proofs.Ytckejldjoajpgaa.closed] at h
  | func s _ ih =>
    intro n h
    cases n with
    | zero => simp [Go.Proofs.Ytckejldjoajpgaa.closed] at h
    | succ n =>
      simp only [Go.Proofs.Ytckejldjoajpgaa.closed, Bool.and_eq_true] at h
      rw [arr_ext s fun i v v' h1 h2 => ih i v v' h1 h2 (closed_mem h.2 h1)]
  | iface _ ih =>
    intro n h
    cases n with
    | zero => simp [Go.Proofs.Ytckejldjoajpgaa.closed] at h
    | succ n => simp only [Go.Proofs.Ytckejldjoajpgaa.closed] at h; rw [ih h]
  | agg s _ ih =>
    intro n h
    cases n with
    | zero => simp [Go.Proofs.Ytckejldjoajpgaa.closed] at h
    | succ n =>
      simp only [Go.Proofs.Ytckejldjoajpgaa.closed] at h
      rw [arr_ext s fun i v v' h1 h2 => ih i v v' h1 h2 (closed_mem h h1)]
  | tuple s _ ih =>
    intro n h
    cases n with
    | zero => simp [Go.Proofs.Ytckejldjoajpgaa.closed] at h
    | succ n =>
      simp only [Go.Proofs.Ytckejldjoajpgaa.closed] at h
      rw [arr_ext s fun i v v' h1 h2 => ih i v v' h1 h2 (closed_mem h h1)]

/-- A shadow stands for one value only. -/
theorem VR.det {g : Gm} {v a b : Value} (x : VR g v a) (y : VR g v b) : a = b := by
  induction x generalizing b with
  | closed e => exact (y.eq_of_closed e).symm
  | ptr e =>
    cases y with
    | closed h => exact VR.eq_of_closed (.ptr e) h
    | ptr e' => rw [e] at e'; cases e'; rfl
  | slice e n =>
    cases y with
    | closed h => exact VR.eq_of_closed (.slice e n) h
    | slice e' _ => rw [e] at e'; cases e'; rfl
    | sliceU e' _ => exact absurd rfl n
  | sliceU e b =>
    cases y with
    | closed h => exact VR.eq_of_closed (.sliceU e b) h
    | slice e' n => exact absurd rfl n
    | sliceU e' _ => rw [e] at e'; cases e'; rfl
  | map e =>
    cases y with
    | closed h => exact VR.eq_of_closed (.map e) h
    | map e' => rw [e] at e'; cases e'; rfl
  | func s f ih =>
    cases y with
    | closed h => exact VR.eq_of_closed (.func s f) h
    | func s' f' =>
      congr 1
      refine (arr_ext (s.symm.trans s') fun i u u' h1 h2 => ?_).symm
      rename_i c c' _
      have hc : i < c.size := by rw [s]; exact (Array.getElem?_eq_some_iff.1 h1).1
      exact (ih i c[i] u (by simp [hc]) h1 (f' i c[i] u' (by simp [hc]) h2)).symm
  | iface hv ih =>
    cases y with
    | closed h => exact VR.eq_of_closed (.iface hv) h
    | iface e' => rw [ih e']
  | agg s f ih =>
    cases y with
    | closed h => exact VR.eq_of_closed (.agg s f) h
    | agg s' f' =>
      congr 1
      refine (arr_ext (s.symm.trans s') fun i u u' h1 h2 => ?_).symm
      rename_i c c' _
      have hc : i < c.size := by rw [s]; exact (Array.getElem?_eq_some_iff.1 h1).1
      exact (ih i c[i] u (by simp [hc]) h1 (f' i c[i] u' (by simp [hc]) h2)).symm
  | tuple s f ih =>
    cases y with
    | closed h => exact VR.eq_of_closed (.tuple s f) h
    | tuple s' f' =>
      congr 1
      refine (arr_ext (s.symm.trans s') fun i u u' h1 h2 => ?_).symm
      rename_i c c' _
      have hc : i < c.size := by rw [s]; exact (Array.getElem?_eq_some_iff.1 h1).1
      exact (ih i c[i] u (by simp [hc]) h1 (f' i c[i] u' (by simp [hc]) h2)).symm

/-- Rows of values, one by one. -/
def LR (g : Gm) (c c' : List Value) : Prop := c.length = c'.length ∧ ∀ (i : Nat) (v v' : Value), c[i]? = some v → c'[i]? = some v' → VR g v v'

theorem LR.mono {g h : Gm} (le : g.le h) {c c' : List Value} (a : LR g c c') : LR h c c' := ⟨a.1, fun i v v' x y => (a.2 i v v' x y).mono le⟩
theorem LR.nil {g : Gm} : LR g [] [] := ⟨rfl, fun i v v' h => by simp at h⟩
theorem LR.cons {g : Gm} {v v' : Value} {c c' : List Value} (h : VR g v v') (t : LR g c c') : LR g (v :: c) (v' :: c') :=
  ⟨by simp [t.1], fun i a b ha hb => by
    cases i with
    | zero => simp at ha hb; subst ha hb; exact h
    | succ i => simp at ha hb; exact t.2 i a b ha hb⟩
theorem LR.get {g : Gm} {c c' : List Value} (h : LR g c c') {i : Nat} {v : Value} (hi : c[i]? = some v) : ∃ v', c'[i]? = some v' ∧ VR g v v' := by
  have hl : i < c'.length := by rw [← h.1]; exact (List.getElem?_eq_some_iff.1 hi).1
  exact ⟨c'[i], by simp [hl], h.2 i v _ hi (by simp [hl])⟩
theorem LR.set {g : Gm} {c c' : List Value} (h : LR g c c') {v v' : Value} (hv : VR g v v') (i : Nat) : LR g (c.set i v) (c'.set i v') :=
  ⟨by simp [h.1], fun j a b ha hb => by
    rw [List.getElem?_set] at ha hb
    by_cases e : i = j
    · subst e
      simp only [if_true] at ha hb
      split at ha <;> simp at ha
      split at hb <;> simp at hb
      subst ha hb; exact hv
    · rw [if_neg e] at ha hb; exact h.2 j a b ha hb⟩
theorem LR.append {g : Gm} {a a' b b' : List Value} (h : LR g a a') (k : LR g b b') : LR g (a ++ b) (a' ++ b') :=
  ⟨by simp [h.1, k.1], fun i v v' hv hv' => by
    rw [List.getElem?_append] at hv hv'
    rw [h.1] at hv
    split at hv
    · rename_i e; rw [if_pos e] at hv'; exact h.2 i v v' hv hv'
    · rename_i e; rw [if_neg e] at hv'; exact k.2 _ v v' hv hv'⟩
theorem LR.drop {g : Gm} {a a' : List Value} (h : LR g a a') (n : Nat) : LR g (a.drop n) (a'.drop n) :=
  ⟨by simp [h.1], fun i v v' hv hv' => by rw [List.getElem?_drop] at hv hv'; exact h.2 _ v v' hv hv'⟩
theorem LR.take {g : Gm} {a a' : List Value} (h : LR g a a') (n : Nat) : LR g (a.take n) (a'.take n) :=
  ⟨by simp [h.1], fun i v v' hv hv' => by
    rw [List.getElem?_take] at hv hv'
    split at hv
    · rename_i e; rw [if_pos e] at hv'; exact h.2 _ v v' hv hv'
    · simp at hv⟩
theorem LR.of_closed {g : Gm} {n : Nat} {c : List Value} (h : c.all (Go.Proofs.Ytckejldjoajpgaa.closed n) = true) : LR g c c :=
  ⟨rfl, fun i v v' a b => by rw [a] at b; cases b; exact .closed (List.all_eq_true.1 h _ (List.mem_of_getElem? a))⟩

theorem LR.toAgg {g : Gm} {c c' : Array Value} (h : LR g c.toList c'.toList) : c.size = c'.size ∧ ∀ (i : Nat) (v v' : Value), c[i]? = some v → c'[i]? = some v' → VR g v v' :=
  ⟨h.1, fun i v v' a b => h.2 i v v' (by simpa using a) (by simpa using b)⟩

theorem VR.agg_inv {g : Gm} {c : Array Value} {x : Value} (h : VR g (.agg c) x) : ∃ c', x = .agg c' ∧ LR g c.toList c'.toList := by
  cases h with
  | @closed n _ e =>
    cases n with
    | zero => simp [Go.Proofs.Ytckejldjoajpgaa.closed] at e
    | succ n => exact ⟨c, rfl, .of_closed (by simpa [Go.Proofs.Ytckejldjoajpgaa.closed] using e)⟩
  | agg s f => exact ⟨_, rfl, s, fun i v v' a b => f i v v' (by simpa using a) (by simpa using b)⟩
theorem VR.tuple_inv {g : Gm} {c : Array Value} {x : Value} (h : VR g (.tuple c) x) : ∃ c', x = .tuple c' ∧ LR g c.toList c'.toList := by
  cases h with
  | @closed n _ e =>
    cases n with
    | zero => simp [Go.Proofs.Ytckejldjoajpgaa.closed] at e
    | succ n => exact ⟨c, rfl, .of_closed (by simpa [Go.Proofs.Ytckejldjoajpgaa.closed] using e)⟩
  | tuple s f => exact ⟨_, rfl, s, fun i v v' a b => f i v v' (by simpa using a) (by simpa using b)⟩
theorem VR.iface_inv {g : Gm} {t : TypeId} {v x : Value} (h : VR g (.iface t v) x) : ∃ v', x = .iface t v' ∧ VR g v v' := by
  cases h with
  | @closed n _ e =>
    cases n with
    | zero => simp [Go.Proofs.Ytckejldjoajpgaa.closed] at e
    | succ n => exact ⟨v, rfl, .closed (by simpa [Go.Proofs.Ytckejldjoajpgaa.closed] using e)⟩
  | iface s => exact ⟨_, rfl, s⟩
theorem VR.func_inv {g : Gm} {f : FuncId} {c : Array Value} {x : Value} (h : VR g (.func (.func f) #[] c) x) : ∃ c', x = .func (.func f) #[] c' ∧ LR g c.toList c'.toList := by
  cases h with
  | @closed n _ e =>
    cases n with
    | zero => simp [Go.Proofs.Ytckejldjoajpgaa.closed] at e
    | succ n =>
      refine ⟨c, rfl, .of_closed (n := n) ?_⟩
      simp only [Go.Proofs.Ytckejldjoajpgaa.closed, Bool.and_eq_true] at e
      exact e.2
  | func s f => exact ⟨_, rfl, s, fun i v v' a b => f i v v' (by simpa using a) (by simpa using b)⟩
theorem VR.ptr_inv {g : Gm} {r o : Nat} {s : Option Nat} {x : Value} (h : VR g (.pointer (some ⟨r, o, s⟩)) x) : s = none ∧ ∃ nm, g r = some nm ∧ x = .pointer (some ⟨nm.b, o, none⟩) := by
  cases h with
  | @closed n _ e => cases n <;> simp [Go.Proofs.Ytckejldjoajpgaa.closed] at e
  | ptr e => exact ⟨rfl, _, e, rfl⟩
theorem VR.map_inv {g : Gm} {r : Nat} {x : Value} (h : VR g (.map (some r)) x) : ∃ nm, g r = some nm ∧ x = .map (some nm.b) := by
  cases h with
  | @closed n _ e => cases n <;> simp [Go.Proofs.Ytckejldjoajpgaa.closed] at e
  | map e => exact ⟨_, e, rfl⟩
theorem VR.slice_inv {g : Gm} {r o l c : Nat} {s : Option Nat} {x : Value} (h : VR g (.slice (some ⟨r, o, s⟩) l c) x) :
    s = none ∧ ∃ nm, g r = some nm ∧ x = .slice (some ⟨nm.b, o, none⟩) l (if c = UNK then nm.n - o / nm.sz else c) ∧ (c = UNK → l ≤ nm.n - o / nm.sz) := by
  cases h with
  | @closed n _ e => cases n <;> simp [Go.Proofs.Ytckejldjoajpgaa.closed] at e
  | slice e h => exact ⟨rfl, _, e, by rw [if_neg h], fun e => absurd e h⟩
  | sliceU e b => exact ⟨rfl, _, e, by simp, fun _ => b⟩
theorem VR.bool_inv {g : Gm} {b : Bool} {x : Value} (h : VR g (.bool b) x) : x = .bool b := h.eq_of_closed (n := 1) rfl
theorem VR.int_inv {g : Gm} {k : IntKind} {n : Int} {x : Value} (h : VR g (.int k n) x) : x = .int k n := h.eq_of_closed (n := 1) rfl
theorem VR.string_inv {g : Gm} {s : ByteArray} {x : Value} (h : VR g (.string s) x) : x = .string s := h.eq_of_closed (n := 1) rfl

end Go.Proofs.Ytckejldjoajpgaa
