/- Operations that change memory, run on the shadow: cells; maps. Nothing of the program. -/
import Derived.Test.YtckejldjoajpgaaE10
namespace Go.Proofs.Ytckejldjoajpgaa
open Go
set_option linter.all false

/-- Values laid over a row, from a place on. -/
def setL : List Value → Nat → List Value → List Value
  | c, _, [] => c
  | c, o, v :: vs => setL (c.set o v) (o + 1) vs

theorem setL_length : ∀ (vs : List Value) (c : List Value) (o : Nat), (setL c o vs).length = c.length
  | [], _, _ => rfl
  | v :: vs, c, o => by simp [setL, setL_length vs]

theorem setL_rel {g : Gm} : ∀ {vs vs' : List Value}, L2 (VR g) vs vs' → ∀ {c c' : List Value}, LR g c c' → ∀ o, LR g (setL c o vs) (setL c' o vs') := by
  intro vs vs' h
  induction h with
  | nil => intro c c' hc o; exact hc
  | cons hx _ ih => intro c c' hc o; exact ih (hc.set hx o) (o + 1)

theorem setL_take : ∀ (vs : List Value) (c : List Value) (o n : Nat), o + vs.length ≤ n → (setL c o vs).take n = setL (c.take n) o vs
  | [], _, _, _, _ => rfl
  | v :: vs, c, o, n, h => by
    simp only [setL]
    rw [setL_take vs _ _ _ (by simp at h; omega), List.take_set]

theorem setL_over : ∀ (vs : List Value) (c : List Value) (o : Nat), o + vs.length ≤ c.length → (setL c o vs).take (o + vs.length) = c.take o ++ vs
  | [], c, o, h => by simp [setL]
  | v :: vs, c, o, h => by
    simp only [setL]
    have := setL_over vs (c.set o v) (o + 1) (by simp at h ⊢; omega)
    rw [show o + (v :: vs).length = o + 1 + vs.length by simp; omega, this]
    simp at h
    rw [List.take_set, List.take_succ_eq_append_getElem (by omega), List.set_append_right _ _ (by simp; omega)]
    simp [Nat.min_eq_left (show o ≤ c.length by omega)]

def setS (S : SH) (r q : Nat) (vs : List Value) : Option SH :=
  if vs.all (·.oneCell') then
    match S.get r with
    | some (.cells k t) => if q + vs.length ≤ k.length then some (S.set r (.cells (setL k q vs) t)) else none
    | some (.row k t sz) => if q + vs.length ≤ k.length then some (S.set r (.row (setL k q vs) t sz)) else none
    | _ => none
  else none

section
variable {P : Program} {w0 w : World} {g : Gm} {S : SH} {ts : List Value} {a : Act}

theorem VR.one {v v' : Value} (h : VR g v v') : v'.oneCell' = v.oneCell' := by
  cases h <;> rfl
theorem LR.one {c c' : List Value} (h : LR g c c') (a : c.all (·.oneCell') = true) : ∀ v ∈ c', v.oneCell' = true := fun v hv => by
  obtain ⟨i, hi, e⟩ := List.getElem_of_mem hv
  have hl : i < c.length := by rw [h.1]; exact hi
  have := h.2 i c[i] v (by simp [hl]) (by rw [← e]; simp [hi])
  rw [this.one]
  exact List.all_eq_true.1 a _ (List.getElem_mem hl)

/-- Storing row by row. -/
theorem run_storeCells_own (P : Program) (b o : Nat) (t : TypeId) (fr : Nat × Nat) : ∀ (vs : List Value) (i : Nat) (cur : Array Value) (w : World), w.heap[b]? = some (.cells cur t fr) → o + i + vs.length ≤ cur.size → Thaw cur.size fr → (∀ v ∈ vs, v.oneCell' = true) →
    ∃ w' cur', (storeCells ⟨b, o, none⟩ vs i).run P w = .ok () w' ∧ Kp (fun x => x = b) w w' ∧ w'.heap[b]? = some (.cells cur' t fr) ∧ cur'.toList = setL cur.toList (o + i) vs
  | [], i, cur, w, hb, _, _, _ => ⟨w, cur, rfl, Kp.refl _ w, hb, rfl⟩
  | v :: vs, i, cur, w, hb, hl, hf, h1 => by
    have hi : o + i < cur.size := by simp at hl; omega
    have hst : (store ((⟨b, o, none⟩ : Addr).add i) v).run P w = .ok () (w.setCell ⟨b, o + i, none⟩ v) := by
      rw [add_none, run_store P w _ v _ (h1 v (by simp))]
      have hc : w.cell? ⟨b, o + i, none⟩ = some cur[o + i] := by rw [cell_of_block hb]; simp [hi]
      have hfr : w.frozen? ⟨b, o + i, none⟩ = false := by
        have := hf _ hi
        simp only [World.frozen?, hb]
        simpa using this
      simp [hc, hfr]
    obtain ⟨w', cur', h2, h3, h4, h5⟩ := run_storeCells_own P b o t fr vs (i + 1) (cur.setIfInBounds (o + i) v) (w.setCell ⟨b, o + i, none⟩ v) (setCell_block hb v) (by simp at hl ⊢; omega) (by simpa using hf) (fun x hx => h1 x (by simp [hx]))
    refine ⟨w', cur', ?_, ?_, h4, ?_⟩
    · simp only [storeCells]
      rw [run_then hst]
      exact h2
    · exact ((Kp.refl (fun x => x = b) w).setCell (fun _ => rfl) v).trans h3 (fun _ _ e => e)
    · rw [h5]
      simp only [setL, Array.toList_setIfInBounds]
      rw [Nat.add_assoc]

theorem setS_ok (h : Sim w0 g S w) {r q : Nat} {vs vs' : List Value} {S' : SH} (e : setS S r q vs = some S') {x : Nm} (hx : g r = some x) (hv : LR g vs vs') :
    ∃ w', (storeCells ⟨x.b, q, none⟩ vs').run P w = .ok () w' ∧ Sim w0 g S' w' ∧ w.heap.size ≤ w'.heap.size := by
  unfold setS at e
  split at e
  case isFalse => cases e
  rename_i h1
  have hone := hv.one h1
  split at e
  · rename_i k t hr
    split at e
    case isFalse => cases e
    rename_i hle
    cases e
    obtain ⟨y, hy, cs, fr, hb, hl, hf⟩ := h.live r _ hr
    rw [hx] at hy; cases hy
    have hsz : k.length = cs.size := by rw [hl.1]; simp
    obtain ⟨w', cur', h2, h3, h4, h5⟩ := run_storeCells_own P x.b q t fr vs' 0 cs w hb (by rw [← hv.1]; omega) hf hone
    refine ⟨w', h2, h.upd hr rfl hx h3 ⟨cur', fr, h4, ?_, ?_⟩, h3.size⟩
    · rw [h5]; exact setL_rel hv.forall₂ hl _
    · have : cur'.size = cs.size := by rw [← Array.length_toList, h5, setL_length]; simp
      rw [this]; exact hf
  · rename_i k t sz hr
    split at e
    case isFalse => cases e
    rename_i hle
    cases e
    obtain ⟨y, hy, cs, fr, hb, hl, hf, hsz, hxs, hcs⟩ := h.live r _ hr
    rw [hx] at hy; cases hy
    have hkl : k.length ≤ cs.size := by have := hl.1; simp at this; omega
    obtain ⟨w', cur', h2, h3, h4, h5⟩ := run_storeCells_own P x.b q t fr vs' 0 cs w hb (by rw [← hv.1]; omega) hf hone
    have hsz' : cur'.size = cs.size := by rw [← Array.length_toList, h5, setL_length]; simp
    refine ⟨w', h2, h.upd hr rfl hx h3 ⟨cur', fr, h4, ?_, ?_, hsz, hxs, ?_⟩, h3.size⟩
    · rw [h5, setL_length, setL_take _ _ _ _ (by rw [← hv.1]; simpa using hle)]
      exact setL_rel hv.forall₂ hl _
    · rw [hsz']; exact hf
    · rw [hsz']; exact hcs
  · cases e

/-- Store. -/
def storeS (P : Program) (S : SH) (t : TypeId) (a v : Value) : Option SH :=
  match a with
  | .pointer (some ⟨r, q, none⟩) => match prun P (sizeOf t) with
    | some n => if v.cells.size = n then setS S r q v.cells.toList else none
    | none => none
  | _ => none

theorem store_ok (h : Sim w0 g S w) {t : TypeId} {a a' v v' : Value} {S' : SH} (e : storeS P S t a v = some S') (ha : VR g a a') (hv : VR g v v') :
    ∃ w', (Instr.storeAt t a' v').run P w = .ok () w' ∧ Sim w0 g S' w' ∧ w.heap.size ≤ w'.heap.size := by
  unfold storeS at e
  split at e
  case h_2 => cases e
  rename_i r q
  split at e
  case h_2 => cases e
  rename_i n hn
  split at e
  case isFalse => cases e
  rename_i hs
  obtain ⟨_, x, hx, rfl⟩ := ha.ptr_inv
  obtain ⟨w', h1, h2, h3⟩ := setS_ok (P := P) h e hx hv.cells
  refine ⟨w', ?_, h2, h3⟩
  simp only [Instr.storeAt, Instr.sureAddr]
  show (storeVar t ⟨x.b, q, none⟩ v').run P w = _
  unfold storeVar
  rw [run_pre hn]
  have : v'.cells.size = n := by rw [← hs]; exact hv.cells.1.symm
  simp only [this]
  simpa using h1

/-! ### Maps -/

/-- One entry of a map turned. -/
def modL (es : List MapEntry) (i : Nat) (f : MapEntry → MapEntry) : List MapEntry := es.modify i f

theorem L2.get {α β : Type} {R : α → β → Prop} {l : List α} {l' : List β} (h : L2 R l l') : ∀ (i : Nat), match l[i]?, l'[i]? with | some a, some b => R a b | none, none => True | _, _ => False := by
  induction h with
  | nil => intro i; simp
  | cons hx _ ih =>
    intro i
    cases i with
    | zero => simpa using hx
    | succ i => simpa using ih i

theorem L2.modify {es es' : List MapEntry} (h : L2 (ER g) es es') {f f' : MapEntry → MapEntry} (hf : ∀ e e', ER g e e' → ER g (f e) (f' e')) : ∀ i, L2 (ER g) (es.modify i f) (es'.modify i f') := by
  induction h with
  | nil => intro i; cases i <;> exact .nil
  | cons hx ht ih =>
    intro i
    cases i with
    | zero => exact .cons (hf _ _ hx) ht
    | succ i => simp only [List.modify_succ_cons]; exact .cons hx (ih i)

theorem L2.append {α β : Type} {R : α → β → Prop} {a : List α} {a' : List β} {b : List α} {b' : List β} (h : L2 R a a') (k : L2 R b b') : L2 R (a ++ b) (a' ++ b') := by
  induction h with
  | nil => exact k
  | cons hx _ ih => exact .cons hx ih

theorem L2.erase {α β : Type} {R : α → β → Prop} {a : List α} {a' : List β} (h : L2 R a a') : ∀ i, L2 R (a.eraseIdx i) (a'.eraseIdx i) := by
  induction h with
  | nil => intro i; exact .nil
  | cons hx ht ih => intro i; cases i with
    | zero => exact ht
    | succ i => exact .cons hx (ih i)

theorem run_setObj {w : World} {r : Nat} {o o' : Obj} (h : w.heap[r]? = some o) (hc : ∀ c t f, o ≠ .cells c t f) : (setObj r o').run P w = .ok () { w with heap := w.heap.setIfInBounds r o' } := by
  cases o <;> first | exact absurd rfl (hc _ _ _) | simp [setObj, Sem.run, h]

theorem kp_setObj {w : World} {r : Nat} {o' : Obj} : Kp (fun x => x = r) w { w with heap := w.heap.setIfInBounds r o' } :=
  ⟨rfl, rfl, rfl, by simp, fun k hk hf => by simp [Array.getElem?_setIfInBounds, Ne.symm hf]⟩

/-- A map's entries replaced. -/
theorem setMap_ok (h : Sim w0 g S w) {r : Nat} {es : List MapEntry} {clock : Nat} (hr : S.get r = some (.map es clock)) {x : Nm} (hx : g r = some x) {es' : Array MapEntry} (hb : w.heap[x.b]? = some (.map es' clock)) {n : List MapEntry} {n' : Array MapEntry} (c2 : Nat) (hn : L2 (ER g) n n'.toList) :
    ∃ w', (setObj x.b (.map n' c2)).run P w = .ok () w' ∧ Sim w0 g (S.set r (.map n c2)) w' ∧ w.heap.size ≤ w'.heap.size := by
  refine ⟨_, run_setObj hb (by simp), h.upd hr rfl hx kp_setObj ⟨n', ?_, hn⟩, by simp⟩
  simp [Array.getElem?_setIfInBounds, block_lt hb]

/-- What a map update does. -/
def updS (P : Program) (S : SH) (t : TypeId) (m k v : Value) : Option SH :=
  if closed 4 k then
    match m, prun P (underlying t) with
    | .map (some r), some (.map kt _) => match S.get r with
      | some (.map es clock) => match prun P (Instr.checkKey false 10000 kt k), prun P (Instr.findKey kt k es) with
        | some (), some (some (i, _)) => match es[i]? with
          | some e => if Instr.sameBits 10000 e.key k then some (S.set r (.map (es.modify i fun e => { e with key := k, val := v }) clock)) else none
          | none => none
        | some (), some none => some (S.set r (.map (es ++ [{ key := k, val := v, born := clock }]) (clock + 1)))
        | _, _ => none
      | _ => none
    | _, _ => none
  else none

theorem upd_ok (h : Sim w0 g S w) {t : TypeId} {m k v m' k' v' : Value} {S' : SH} (e : updS P S t m k v = some S') (hm : VR g m m') (hk : VR g k k') (hv : VR g v v') :
    ∃ w', (Instr.mapUpdate t m' k' v').run P w = .ok () w' ∧ Sim w0 g S' w' ∧ w.heap.size ≤ w'.heap.size := by
  unfold updS at e
  split at e
  case isFalse => cases e
  rename_i hck
  have := hk.eq_of_closed hck
  subst this
  split at e
  case h_2 => cases e
  rename_i r kt et hu
  split at e
  case h_2 => cases e
  rename_i es clock hr
  obtain ⟨x, hx, rfl⟩ := hm.map_inv
  obtain ⟨y, hy, es', hb, hl⟩ := h.live r _ hr
  rw [hx] at hy; cases hy
  unfold Instr.mapUpdate
  rw [show ∀ (f : TypeDesc → Sem Unit), (underlying t >>= f).run P w = (f (.map kt et)).run P w from fun f => run_pre hu]
  simp only []
  rw [run_then (run_getObj hb (by simp))]
  simp only []
  split at e
  · rename_i i v0 hc hf
    rw [run_pre hc]
    obtain ⟨f', h1, h2⟩ := findKey_rel (P := P) kt k' hl _ hf
    rw [run_pre h1]
    cases f' with
    | none => exact h2.elim
    | some p =>
      obtain ⟨j, u⟩ := p
      obtain ⟨rfl, _⟩ := h2
      simp only []
      split at e
      case h_2 => cases e
      rename_i e0 he0
      split at e
      case isFalse => cases e
      rename_i hsb
      cases e
      have hg := hl.get i
      rw [he0] at hg
      cases h3 : es'.toList[i]? with
      | none => rw [h3] at hg; exact hg.elim
      | some e1 =>
        rw [h3] at hg
        have h3' : es'[i]? = some e1 := by simpa using h3
        have hky : prun P (Instr.keyThatStays (((es'[i]?).map (·.key)).getD k') k') = some k' := by
          rw [h3']
          simp only [Option.map_some, Option.getD_some, ← hg.1]
          unfold Instr.keyThatStays
          rw [if_pos hsb]
          rfl
        rw [run_pre hky]
        obtain ⟨w', a1, a2, a3⟩ := setMap_ok (P := P) h hr hx hb (n := es.modify i fun e => { e with key := k', val := v }) (n' := es'.modify i fun e => { e with key := k', val := v' }) clock (by
          rw [Array.toList_modify]
          exact hl.modify (f := fun e => { e with key := k', val := v }) (f' := fun e => { e with key := k', val := v' }) (fun a b hab => ⟨rfl, hab.2.1, hck, hv⟩) i)
        exact ⟨w', a1, a2, a3⟩
  · rename_i hc hf
    cases e
    rw [run_pre hc]
    obtain ⟨f', h1, h2⟩ := findKey_rel (P := P) kt k' hl _ hf
    rw [run_pre h1]
    cases f' with
    | some p => exact h2.elim
    | none =>
      simp only []
      exact setMap_ok (P := P) h hr hx hb (n := es ++ [{ key := k', val := v, born := clock }]) (n' := es'.push { key := k', val := v', born := clock }) (clock + 1) (by
        rw [Array.toList_push]
        exact hl.append (.cons ⟨rfl, rfl, hck, hv⟩ .nil))
  · cases e
end
end Go.Proofs.Ytckejldjoajpgaa
