/- What a call leaves as it was: 'Kp f w w'': no block that stood in w has turned but those of f. Nothing of the program. -/
import Derived.WalkKit
import Derived.WalkSpells
import Derived.WalkLawsBesides
import Derived.Maps.Own
namespace Go.Proofs.Ytckejldjoajpgaa
open Go Go.RowKit

structure Kp (f : Nat → Prop) (w w' : World) : Prop where
  os : w'.os = w.os
  tape : w'.tape = w.tape
  output : w'.output = w.output
  size : w.heap.size ≤ w'.heap.size
  block : ∀ k, k < w.heap.size → ¬ f k → w'.heap[k]? = w.heap[k]?

/-- Nothing that stood has turned. -/
abbrev Kn (w w' : World) : Prop := Kp (fun _ => False) w w'

section
variable {f g : Nat → Prop} {w w1 w2 : World}
theorem Kp.refl (f : Nat → Prop) (w : World) : Kp f w w := ⟨rfl, rfl, rfl, Nat.le_refl _, fun _ _ _ => rfl⟩
theorem Kp.trans (h : Kp f w w1) (k : Kp g w1 w2) (hg : ∀ i, i < w.heap.size → g i → f i) : Kp f w w2 :=
  ⟨k.os.trans h.os, k.tape.trans h.tape, k.output.trans h.output, Nat.le_trans h.size k.size, fun i hi hf => (k.block i (Nat.lt_of_lt_of_le hi h.size) (fun e => hf (hg i hi e))).trans (h.block i hi hf)⟩
theorem Kp.mono (h : Kp f w w1) (hg : ∀ i, i < w.heap.size → f i → g i) : Kp g w w1 := ⟨h.os, h.tape, h.output, h.size, fun i hi hf => h.block i hi (fun e => hf (hg i hi e))⟩
theorem Kp.then (h : Kp f w w1) (k : Kn w1 w2) : Kp f w w2 := h.trans k (fun _ _ e => e.elim)
theorem Kp.of_kn (h : Kn w w1) : Kp f w w1 := h.mono (fun _ _ e => e.elim)
theorem Kp.alloc (h : Kp f w w1) (o : Obj) : Kp f w (w1.alloc o) :=
  h.then ⟨rfl, rfl, rfl, by simp, fun k hk _ => Below.heap_alloc _ _ _ hk⟩
theorem Kp.drew (h : Kp f w w1) : Kp f w w1.drew := ⟨h.os, h.tape, h.output, h.size, h.block⟩
theorem Kp.drewN (h : Kp f w w1) (n : Nat) : Kp f w (w1.drewN n) := ⟨h.os, h.tape, h.output, h.size, h.block⟩
theorem Kp.setCell (h : Kp f w w1) {p : Addr} (hp : p.block < w.heap.size → f p.block) (u : Value) : Kp f w (w1.setCell p u) :=
  ⟨h.os, h.tape, h.output, by have := h.size; simp [World.setCell]; exact this, fun k hk hf => by
    rw [Below.heap_setCell _ _ _ _ (fun e => hf (by rw [e]; exact hp (e ▸ hk)))]; exact h.block k hk hf⟩
theorem Kp.grown (h : Kp f w w1) {row : Option Nat} (hg : w1.grownBy w2 row) (hr : ∀ k, row = some k → k < w.heap.size → f k) : Kp f w w2 :=
  ⟨hg.os.trans h.os, hg.tape.trans h.tape, hg.output.trans h.output, Nat.le_trans h.size hg.size, fun k hk hf =>
    (hg.block k (Nat.lt_of_lt_of_le hk h.size) (fun e => hf (hr k e.symm hk))).trans (h.block k hk hf)⟩
theorem Kp.cell (h : Kp f w w1) {p : Addr} (hp : p.block < w.heap.size) (hf : ¬ f p.block) : w1.cell? p = w.cell? p := World.cell?_of_block (w := w) (h.block p.block hp hf)
theorem Kp.frozen (h : Kp f w w1) {p : Addr} (hp : p.block < w.heap.size) (hf : ¬ f p.block) : w1.frozen? p = w.frozen? p := World.frozen?_of_block (w := w) (h.block p.block hp hf)
theorem Kp.below (h : Kn w w1) : Below w.heap.size w w1 := ⟨h.os, h.tape, h.output, h.size, fun k hk => h.block k hk id⟩
theorem Kp.of_below (h : Below w.heap.size w w1) : Kn w w1 := ⟨h.os, h.tape, h.output, h.size, fun k hk _ => h.block k hk⟩
theorem Kp.own (h : Kn w w1) : w.grownBy w1 none := ⟨h.os, h.tape, h.output, h.size, fun k hk _ => h.block k hk id⟩
end

theorem cell_alloc {w : World} {a : Addr} {v : Value} (o : Obj) (h : w.cell? a = some v) : (w.alloc o).cell? a = some v := by
  have hb : a.block < w.heap.size := World.block_lt_of_cell? w _ h
  rw [World.cell?_of_block (Below.heap_alloc w o a.block hb)]; exact h
theorem frozen_alloc {w : World} {a : Addr} {v : Value} {b : Bool} (o : Obj) (h : w.cell? a = some v) (hf : w.frozen? a = b) : (w.alloc o).frozen? a = b := by
  have hb : a.block < w.heap.size := World.block_lt_of_cell? w _ h
  rw [World.frozen?_of_block (Below.heap_alloc w o a.block hb)]; exact hf
theorem cell_new1 (w : World) (v : Value) (t : TypeId) : (w.alloc (.cells #[v] t)).cell? ⟨w.heap.size, 0, none⟩ = some v := by
  unfold World.cell?; rw [(MapKept.heap_alloc w _).1]; rfl
theorem cell_kn {w w' : World} (h : Kn w w') {a : Addr} {v : Value} (hc : w.cell? a = some v) : w'.cell? a = some v := by
  rw [h.cell (World.block_lt_of_cell? w _ hc) id]; exact hc
theorem frozen_kn {w w' : World} (h : Kn w w') {a : Addr} {v : Value} {b : Bool} (hc : w.cell? a = some v) (hf : w.frozen? a = b) : w'.frozen? a = b := by
  rw [h.frozen (World.block_lt_of_cell? w _ hc) id]; exact hf
theorem block_lt {w : World} {b : Nat} {o : Obj} (h : w.heap[b]? = some o) : b < w.heap.size := (Array.getElem?_eq_some_iff.1 h).1
theorem cell_of_block {w : World} {b i : Nat} {cs : Array Value} {t : TypeId} {fr : Nat × Nat} (h : w.heap[b]? = some (.cells cs t fr)) : w.cell? ⟨b, i, none⟩ = cs[i]? := by
  simp [World.cell?, h]
theorem frozen_of_block {w : World} {b i : Nat} {cs : Array Value} {t : TypeId} (h : w.heap[b]? = some (.cells cs t (0, 0))) : w.frozen? ⟨b, i, none⟩ = false := by
  simp [World.frozen?, h]
theorem setCell_block {w : World} {b i : Nat} {cs : Array Value} {t : TypeId} {fr : Nat × Nat} (h : w.heap[b]? = some (.cells cs t fr)) (v : Value) : (w.setCell ⟨b, i, none⟩ v).heap[b]? = some (.cells (cs.setIfInBounds i v) t fr) := by
  simp [World.setCell, Array.getElem?_modify, h]
theorem setCell_other {w : World} {a : Addr} {b : Nat} (v : Value) (h : b ≠ a.block) : (w.setCell a v).heap[b]? = w.heap[b]? := Below.heap_setCell _ _ _ _ h
theorem alloc_new (w : World) (o : Obj) : (w.alloc o).heap[w.heap.size]? = some o := (MapKept.heap_alloc w _).1
theorem alloc_old {w : World} {b : Nat} {o : Obj} (o' : Obj) (h : w.heap[b]? = some o) : (w.alloc o').heap[b]? = some o := by
  rw [Below.heap_alloc _ _ _ (block_lt h)]; exact h
theorem drew_block {w : World} {b : Nat} : w.drew.heap[b]? = w.heap[b]? := rfl

end Go.Proofs.Ytckejldjoajpgaa
