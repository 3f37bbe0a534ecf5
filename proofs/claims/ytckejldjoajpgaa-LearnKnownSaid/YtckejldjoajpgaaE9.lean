/- Operations that read memory, and those that lay new blocks, run on the shadow. Nothing of the program. -/
import Derived.Test.YtckejldjoajpgaaE8
import Derived.Laws.Cells
import Derived.Laws.IdiomCopy
namespace Go.Proofs.Ytckejldjoajpgaa
open Go
set_option linter.all false

section
variable {P : Program}

theorem run_then {α β : Type} {x : Sem α} {f : α → Sem β} {w w1 : World} {a : α} (h : x.run P w = .ok a w1) : (x >>= f).run P w = (f a).run P w1 := by
  rw [Sem.run_bind, h]; rfl
theorem run_pre {α β : Type} {x : Sem α} {f : α → Sem β} {w : World} {a : α} (h : prun P x = some a) : (x >>= f).run P w = (f a).run P w := run_then (prun_run h w)

/-- Cells in a row. -/
def cellsAt (S : SH) (r o n : Nat) : Option (List Value) := match S.get r with
  | some (.cells c _) | some (.row c _ _) => if o + n ≤ c.length then some ((c.drop o).take n) else none
  | _ => none

variable {w0 w : World} {g : Gm} {S : SH}

theorem Sim.cells (h : Sim w0 g S w) {r o n : Nat} {cs : List Value} (e : cellsAt S r o n = some cs) {x : Nm} (hx : g r = some x) :
    ∃ cs', LR g cs cs' ∧ cs.length = n ∧ ∀ (j : Nat) v, cs'[j]? = some v → w.cell? ⟨x.b, o + j, none⟩ = some v ∧ w.frozen? ⟨x.b, o + j, none⟩ = false := by
  unfold cellsAt at e
  have core : ∀ (c c' : List Value) (cs2 : Array Value) (t : TypeId) (fr : Nat × Nat), LR g c c' → w.heap[x.b]? = some (.cells cs2 t fr) → (∀ (i : Nat) v, c'[i]? = some v → cs2[i]? = some v) → Thaw cs2.size fr → (if o + n ≤ c.length then some ((c.drop o).take n) else none) = some cs →
      ∃ cs', LR g cs cs' ∧ cs.length = n ∧ ∀ (j : Nat) v, cs'[j]? = some v → w.cell? ⟨x.b, o + j, none⟩ = some v ∧ w.frozen? ⟨x.b, o + j, none⟩ = false := by
    intro c c' cs2 t fr hc hw hi hf e
    split at e
    · rename_i hl
      cases e
      refine ⟨(c'.drop o).take n, (hc.drop o).take n, by simp; omega, fun j v hj => ?_⟩
      rw [List.getElem?_take] at hj
      split at hj
      · rw [List.getElem?_drop] at hj
        have := hi _ _ hj
        have hlt : o + j < cs2.size := (Array.getElem?_eq_some_iff.1 this).1
        refine ⟨by rw [cell_of_block hw]; exact this, ?_⟩
        have hn := hf _ hlt
        simp only [World.frozen?, hw]
        simpa using hn
      · cases hj
    · cases e
  split at e
  · rename_i c t hr
    obtain ⟨y, hy, cs2, fr, hb, hl, hf⟩ := h.live r _ hr
    rw [hx] at hy; cases hy
    exact core c cs2.toList cs2 t fr hl hb (fun i v hv => by simpa using hv) hf e
  · rename_i c t sz hr
    obtain ⟨y, hy, cs2, fr, hb, hl, hf, _⟩ := h.live r _ hr
    rw [hx] at hy; cases hy
    refine core c _ cs2 t fr hl hb (fun i v hv => ?_) hf e
    rw [List.getElem?_take] at hv
    split at hv
    · simpa using hv
    · cases hv
  · cases e

def loadS (P : Program) (S : SH) (t : TypeId) (r o : Nat) : Option Value :=
  match prun P (isAgg t) with
  | some true => match prun P (sizeOf t) with
    | some n => match cellsAt S r o n with
      | some cs => some (.agg cs.toArray)
      | none => none
    | none => none
  | some false => match cellsAt S r o 1 with
    | some [v] => some v
    | _ => none
  | none => none

theorem load_ok (h : Sim w0 g S w) {t : TypeId} {r o : Nat} {v : Value} (e : loadS P S t r o = some v) {x : Nm} (hx : g r = some x) : ∃ v', VR g v v' ∧ (Instr.loadAt t (.pointer (some ⟨x.b, o, none⟩))).run P w = .ok v' w := by
  unfold loadS at e
  simp only [Instr.loadAt, Instr.sureAddr]
  show ∃ v', VR g v v' ∧ (loadVar t ⟨x.b, o, none⟩).run P w = .ok v' w
  unfold loadVar
  split at e
  · rename_i ha
    split at e
    · rename_i n hn
      split at e
      · rename_i cs hcs
        cases e
        obtain ⟨cs', hl, hlen, hc⟩ := h.cells hcs hx
        have h1 := run_loadCells_list (P := P) w ⟨x.b, o, none⟩ cs' (fun j v hj => by rw [add_none]; exact (hc j v hj).1)
        have h2 : cs'.length = n := by rw [← hl.1, hlen]
        rw [h2] at h1
        refine ⟨.agg cs'.toArray, .agg (by simp [hl.1]) fun i v v' a b => hl.2 i v v' (by simpa using a) (by simpa using b), ?_⟩
        rw [run_pre ha]
        simp only [if_true]
        rw [run_pre hn]
        exact run_then h1
      · cases e
    · cases e
  · rename_i ha
    split at e
    · rename_i u hcs
      cases e
      obtain ⟨cs', hl, hlen, hc⟩ := h.cells hcs hx
      obtain ⟨v', h1, h2⟩ := hl.get (i := 0) (v := v) rfl
      refine ⟨v', h2, ?_⟩
      rw [run_pre ha]
      have := (hc 0 v' h1).1
      simp only [Nat.add_zero] at this
      simp [load, Sem.run, this]
    · cases e
  · cases e

/-- The entries of a map. -/
def entriesOf (S : SH) (m : Value) : Option (List MapEntry) := match m with
  | .map none => some []
  | .map (some r) => match S.get r with
    | some (.map es _) => some es
    | _ => none
  | _ => none

def FR (g : Gm) : Option (Nat × Value) → Option (Nat × Value) → Prop
  | none, none => True
  | some (i, v), some (j, u) => i = j ∧ VR g v u
  | _, _ => False

theorem findNow_rel (kind : TypeDesc) (k : Value) {es es' : List MapEntry} (h : L2 (ER g) es es') : ∀ i, match Instr.findNow kind k es i, Instr.findNow kind k es' i with
    | some a, some b => FR g a b
    | none, none => True
    | _, _ => False := by
  induction h with
  | nil => intro i; simp [Instr.findNow, FR]
  | cons hx _ ih =>
    intro i
    simp only [Instr.findNow, ← hx.1]
    cases Instr.sameNow kind k _ with
    | none => trivial
    | some b =>
      cases b with
      | true => exact ⟨rfl, hx.2.2.2⟩
      | false => exact ih _

theorem findAsking_rel (kt : TypeId) (k : Value) {es es' : List MapEntry} (h : L2 (ER g) es es') : ∀ i, PR P (FR g) (Instr.findAsking kt k es i) (Instr.findAsking kt k es' i) := by
  induction h with
  | nil => intro i; exact .pure trivial
  | cons hx _ ih =>
    intro i
    simp only [Instr.findAsking, ← hx.1]
    refine .bind_eq fun b => ?_
    split
    · exact .pure ⟨rfl, hx.2.2.2⟩
    · exact ih _

theorem findKey_rel (kt : TypeId) (k : Value) {es es' : List MapEntry} (h : L2 (ER g) es es') : PR P (FR g) (Instr.findKey kt k es) (Instr.findKey kt k es') := by
  unfold Instr.findKey
  refine .bind_eq fun d => ?_
  have := findNow_rel d k h 0
  cases h1 : Instr.findNow d k es 0 with
  | none =>
    cases h2 : Instr.findNow d k es' 0 with
    | none => exact findAsking_rel kt k h 0
    | some b => rw [h1, h2] at this; exact this.elim
  | some a =>
    cases h2 : Instr.findNow d k es' 0 with
    | none => rw [h1, h2] at this; exact this.elim
    | some b => rw [h1, h2] at this; exact .pure this

theorem L2.isEmpty {es es' : List MapEntry} (h : L2 (ER g) es es') : es.isEmpty = es'.isEmpty := by cases h <;> rfl
theorem L2.length {α β : Type} {R : α → β → Prop} {es : List α} {es' : List β} (h : L2 R es es') : es.length = es'.length := by
  induction h with
  | nil => rfl
  | cons _ _ ih => simp [ih]

/-- A look-up. -/
def lookS (P : Program) (N : Nat) (S : SH) (t : TypeId) (m k : Value) (ok : Bool) : Option Value :=
  if closed 4 k then
    match prun P (underlying t), entriesOf S m with
    | some (.map kt et), some es =>
      match prun P (Instr.checkKey es.isEmpty 10000 kt k), prun P (Instr.findKey kt k es) with
      | some (), some (some (_, v)) => some (if ok then .tuple #[v, .bool true] else v)
      | some (), some none => if et < N then (match prun P (zeroValue et) with | some z => some (if ok then .tuple #[z, .bool false] else z) | none => none) else none
      | _, _ => none
    | _, _ => none
  else none

/-- What a map is in the world. -/
theorem Sim.entries (h : Sim w0 g S w) {m m' : Value} {es : List MapEntry} (e : entriesOf S m = some es) (hm : VR g m m') :
    (m = .map none ∧ m' = .map none ∧ es = []) ∨ ∃ r clock x es', m = .map (some r) ∧ S.get r = some (.map es clock) ∧ g r = some x ∧ m' = .map (some x.b) ∧ w.heap[x.b]? = some (.map es' clock) ∧ L2 (ER g) es es'.toList := by
  unfold entriesOf at e
  split at e
  · cases e; exact .inl ⟨rfl, hm.eq_of_closed (n := 1) rfl, rfl⟩
  · rename_i r
    split at e
    · rename_i es2 clock hr
      cases e
      obtain ⟨x, hx, h2⟩ := hm.map_inv
      obtain ⟨y, hy, es', hb, hl⟩ := h.live r _ hr
      rw [hx] at hy; cases hy
      exact .inr ⟨r, clock, x, es', rfl, hr, hx, h2, hb, hl⟩
    · cases e
  · cases e

theorem run_getObj {w : World} {r : Nat} {o : Obj} (h : w.heap[r]? = some o) (hc : ∀ c t f, o ≠ .cells c t f) : (getObj r).run P w = .ok o w := by
  cases o <;> first | exact absurd rfl (hc _ _ _) | simp [getObj, Sem.run, h]

theorem look_ok {N : Nat} (hz : ZC P N) (h : Sim w0 g S w) {t : TypeId} {m k m' k' : Value} {ok : Bool} {v : Value} (e : lookS P N S t m k ok = some v) (hm : VR g m m') (hk : VR g k k') : ∃ v', VR g v v' ∧ (Instr.lookup t m' k' ok).run P w = .ok v' w := by
  unfold lookS at e
  split at e
  case isFalse => cases e
  rename_i hck
  have := hk.eq_of_closed hck
  subst this
  split at e
  case h_2 => cases e
  rename_i kt et es hu he
  have tail : ∀ (es' : Array MapEntry), L2 (ER g) es es'.toList → ∃ v', VR g v v' ∧ ((do
      Instr.checkKey es'.isEmpty 10000 kt k'
      let (v, ok1) ← match ← Instr.findKey kt k' es'.toList with
        | some (_, v) => pure (v, true)
        | none => pure (← zeroValue et, false)
      pure (if ok then .tuple #[v, .bool ok1] else v) : Sem Value)).run P w = .ok v' w := by
    intro es' hl
    have hemp : es'.isEmpty = es.isEmpty := by rw [L2.isEmpty hl]; simp
    rw [hemp]
    split at e
    · rename_i v0 hc hf
      obtain ⟨f', h1, h2⟩ := findKey_rel (P := P) kt k' hl _ hf
      cases f' with
      | none => exact h2.elim
      | some p =>
        obtain ⟨j, u⟩ := p
        obtain ⟨_, hv⟩ := h2
        cases e
        refine ⟨if ok then .tuple #[u, .bool true] else u, ?_, ?_⟩
        · split
          · exact hv.tup2 true
          · exact hv
        · rw [run_pre hc, run_pre h1]
          rfl
    · rename_i hc hf
      obtain ⟨f', h1, h2⟩ := findKey_rel (P := P) kt k' hl _ hf
      cases f' with
      | some p => exact h2.elim
      | none =>
        split at e
        case isFalse => cases e
        rename_i hN
        split at e
        case h_2 => cases e
        rename_i z hzz
        cases e
        have hcl := hz et z hN hzz
        refine ⟨if ok then .tuple #[z, .bool false] else z, ?_, ?_⟩
        · split
          · exact VR.tup2 (.closed hcl) false
          · exact .closed hcl
        · rw [run_pre hc, run_pre h1]
          simp only []
          rw [run_pre hzz]
          rfl
    · cases e
  unfold Instr.lookup
  rw [show ∀ (f : TypeDesc → Sem Value), (underlying t >>= f).run P w = (f (.map kt et)).run P w from fun f => run_pre hu]
  simp only []
  rcases h.entries he hm with ⟨rfl, rfl, rfl⟩ | ⟨r, clock, x, es', rfl, hr, hx, rfl, hb, hl⟩
  · exact tail #[] .nil
  · simp only []
    rw [run_then (run_getObj hb (by simp))]
    exact tail es' hl
end
end Go.Proofs.Ytckejldjoajpgaa
