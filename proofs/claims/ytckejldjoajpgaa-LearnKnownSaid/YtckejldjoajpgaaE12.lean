/- Operations that change memory, run on the shadow: maps (2), text iterators. Nothing of the program. -/
import Derived.Test.YtckejldjoajpgaaE11
namespace Go.Proofs.Ytckejldjoajpgaa
open Go
set_option linter.all false

section
variable {P : Program} {w0 w : World} {g : Gm} {S : SH} {ts : List Value} {a : Act}

/-- The place of a map's entry. -/
def entryS (P : Program) (N : Nat) (S : SH) (t : TypeId) (m k : Value) : Option (Value × SH) :=
  if closed 4 k then
    match m, prun P (underlying t) with
    | .map (some r), some (.map kt et) => match S.get r with
      | some (.map es clock) => match prun P (Instr.checkKey false 10000 kt k), prun P (Instr.findKey kt k es) with
        | some (), some (some (i, v)) => match es[i]? with
          | some e => if Instr.sameBits 10000 e.key k then some (.tuple #[v, goInt e.born], S.set r (.map (es.modify i fun e => { e with key := k }) clock)) else none
          | none => none
        | some (), some none => if et < N then (match prun P (zeroValue et) with
          | some z => some (.tuple #[z, goInt clock], S.set r (.map (es ++ [{ key := k, val := z, born := clock }]) (clock + 1)))
          | none => none) else none
        | _, _ => none
      | _ => none
    | _, _ => none
  else none

theorem VR.tup_int {a a' : Value} (h : VR g a a') (n : Int) : VR g (.tuple #[a, goInt n]) (.tuple #[a', goInt n]) :=
  .tuple rfl (LR.toAgg (c := #[a, goInt n]) (c' := #[a', goInt n]) (.cons h (.cons (.closed (n := 1) rfl) .nil))).2

theorem entry_ok {N : Nat} (hz : ZC P N) (h : Sim w0 g S w) {t : TypeId} {m k m' k' : Value} {v : Value} {S' : SH} (e : entryS P N S t m k = some (v, S')) (hm : VR g m m') (hk : VR g k k') :
    ∃ v' w', (Instr.mapEntry t m' k').run P w = .ok v' w' ∧ VR g v v' ∧ Sim w0 g S' w' ∧ w.heap.size ≤ w'.heap.size := by
  unfold entryS at e
  split at e
  case isFalse => cases e
  rename_i hck
  have := hk.eq_of_closed hck
  subst this
  split at e
  case h_2 => cases e
  rename_i r kt et hu
  split at e
  case h_2 => cases e
  rename_i es clock hr
  obtain ⟨x, hx, rfl⟩ := hm.map_inv
  obtain ⟨y, hy, es', hb, hl⟩ := h.live r _ hr
  rw [hx] at hy; cases hy
  unfold Instr.mapEntry
  rw [show ∀ (f : TypeDesc → Sem Value), (underlying t >>= f).run P w = (f (.map kt et)).run P w from fun f => run_pre hu]
  simp only []
  rw [run_then (run_getObj hb (by simp))]
  simp only []
  split at e
  · rename_i i v0 hc hf
    rw [run_pre hc]
    obtain ⟨f', h1, h2⟩ := findKey_rel (P := P) kt k' hl _ hf
    rw [run_pre h1]
    cases f' with
    | none => exact h2.elim
    | some p =>
      obtain ⟨j, u⟩ := p
      obtain ⟨rfl, hvu⟩ := h2
      simp only []
      split at e
      case h_2 => cases e
      rename_i e0 he0
      split at e
      case isFalse => cases e
      rename_i hsb
      cases e
      have hg := hl.get i
      rw [he0] at hg
      cases h3 : es'.toList[i]? with
      | none => rw [h3] at hg; exact hg.elim
      | some e1 =>
        rw [h3] at hg
        have h3' : es'[i]? = some e1 := by simpa using h3
        have hky : prun P (Instr.keyThatStays (((es'[i]?).map (·.key)).getD k') k') = some k' := by
          rw [h3']
          simp only [Option.map_some, Option.getD_some, ← hg.1]
          unfold Instr.keyThatStays
          rw [if_pos hsb]
          rfl
        rw [run_pre hky]
        obtain ⟨w', a1, a2, a3⟩ := setMap_ok (P := P) h hr hx hb (n := es.modify i fun e => { e with key := k' }) (n' := es'.modify i fun e => { e with key := k' }) clock (by
          rw [Array.toList_modify]
          exact hl.modify (f := fun e => { e with key := k' }) (f' := fun e => { e with key := k' }) (fun a b hab => ⟨rfl, hab.2.1, hck, hab.2.2.2⟩) i)
        refine ⟨.tuple #[u, goInt e0.born], w', ?_, hvu.tup_int _, a2, a3⟩
        rw [run_then a1, h3']
        simp only [Option.map_some, Option.getD_some, hg.2.1]
        rfl
  · rename_i hc hf
    rw [run_pre hc]
    obtain ⟨f', h1, h2⟩ := findKey_rel (P := P) kt k' hl _ hf
    rw [run_pre h1]
    cases f' with
    | some p => exact h2.elim
    | none =>
      simp only []
      split at e
      case isFalse => cases e
      rename_i hN
      split at e
      case h_2 => cases e
      rename_i z hzz
      cases e
      have hzc : VR g z z := .closed (hz _ z hN hzz)
      obtain ⟨w', a1, a2, a3⟩ := setMap_ok (P := P) h hr hx hb (n := es ++ [{ key := k', val := z, born := clock }]) (n' := es'.push { key := k', val := z, born := clock }) (clock + 1) (by
        rw [Array.toList_push]
        exact hl.append (.cons ⟨rfl, rfl, hck, hzc⟩ .nil))
      refine ⟨.tuple #[z, goInt clock], w', ?_, hzc.tup_int _, a2, a3⟩
      rw [run_pre hzz, run_then a1]
      rfl
  · cases e

def entryStoreS (S : SH) (m s v : Value) : Option SH :=
  match m, s with
  | .map (some r), .int _ b => match S.get r with
    | some (.map es clock) => match es.findIdx? (fun e => (e.born : Int) == b) with
      | some i => some (S.set r (.map (es.modify i fun e => { e with val := v }) clock))
      | none => none
    | _ => none
  | _, _ => none

theorem findIdx_rel {es es' : List MapEntry} (h : L2 (ER g) es es') (b : Int) : es.findIdx? (fun e => (e.born : Int) == b) = es'.findIdx? (fun e => (e.born : Int) == b) := by
  induction h with
  | nil => rfl
  | cons hx _ ih => simp only [List.findIdx?_cons, hx.2.1, ih]

theorem entryStore_ok (h : Sim w0 g S w) {t : TypeId} {m s v m' s' v' : Value} {S' : SH} (e : entryStoreS S m s v = some S') (hm : VR g m m') (hs : VR g s s') (hv : VR g v v') :
    ∃ w', (Instr.entryStore t m' s' v').run P w = .ok () w' ∧ Sim w0 g S' w' ∧ w.heap.size ≤ w'.heap.size := by
  unfold entryStoreS at e
  split at e
  case h_2 => cases e
  rename_i r k b
  split at e
  case h_2 => cases e
  rename_i es clock hr
  obtain ⟨x, hx, rfl⟩ := hm.map_inv
  obtain ⟨y, hy, es', hb, hl⟩ := h.live r _ hr
  rw [hx] at hy; cases hy
  have := hs.int_inv
  subst this
  split at e
  case h_2 => cases e
  rename_i i hi
  cases e
  unfold Instr.entryStore
  simp only []
  rw [run_then (run_getObj hb (by simp))]
  simp only []
  rw [run_pre (show prun P (asInt (.int k b)) = some b from rfl)]
  have hi' : es'.findIdx? (fun e => (e.born : Int) == b) = some i := by
    obtain ⟨l'⟩ := es'
    rw [List.findIdx?_toArray, ← findIdx_rel hl]; exact hi
  rw [hi']
  simp only []
  exact setMap_ok (P := P) h hr hx hb (n := es.modify i fun e => { e with val := v }) (n' := es'.modify i fun e => { e with val := v' }) clock (by
    rw [Array.toList_modify]
    exact hl.modify (f := fun e => { e with val := v }) (f' := fun e => { e with val := v' }) (fun a b hab => ⟨hab.1, hab.2.1, hab.2.2.1, hv⟩) i)

def deleteS (P : Program) (S : SH) (t : TypeId) (m k : Value) : Option SH :=
  if closed 4 k then
    match m, prun P (underlying t) with
    | .map (some r), some (.map kt _) => match S.get r with
      | some (.map es clock) => match prun P (Instr.checkKey es.isEmpty 10000 kt k), prun P (Instr.findKey kt k es) with
        | some (), some (some (i, _)) => some (S.set r (.map (es.eraseIdx i) clock))
        | some (), some none => some (S.set r (.map es clock))
        | _, _ => none
      | _ => none
    | _, _ => none
  else none

theorem delete_ok (h : Sim w0 g S w) {t ty : TypeId} {ats : Array TypeId} (hat : ats[0]? = some t) {m k m' k' : Value} {S' : SH} (e : deleteS P S t m k = some S') (hm : VR g m m') (hk : VR g k k') :
    ∃ w', (Builtin.delete_ ats ty #[m', k']).run P w = .ok (.tuple #[]) w' ∧ Sim w0 g S' w' ∧ w.heap.size ≤ w'.heap.size := by
  unfold deleteS at e
  split at e
  case isFalse => cases e
  rename_i hck
  have := hk.eq_of_closed hck
  subst this
  split at e
  case h_2 => cases e
  rename_i r kt et hu
  split at e
  case h_2 => cases e
  rename_i es clock hr
  obtain ⟨x, hx, rfl⟩ := hm.map_inv
  obtain ⟨y, hy, es', hb, hl⟩ := h.live r _ hr
  rw [hx] at hy; cases hy
  unfold Builtin.delete_
  simp only [hat, List.getElem?_toArray, List.getElem?_cons_zero, List.getElem?_cons_succ]
  rw [show ∀ (f : TypeDesc → Sem Value), (underlying t >>= f).run P w = (f (.map kt et)).run P w from fun f => run_pre hu]
  simp only []
  rw [run_then (run_getObj hb (by simp))]
  simp only []
  have hemp : es'.isEmpty = es.isEmpty := by rw [L2.isEmpty hl]; simp
  rw [hemp]
  split at e
  · rename_i i v0 hc hf
    rw [run_pre hc]
    obtain ⟨f', h1, h2⟩ := findKey_rel (P := P) kt k' hl _ hf
    rw [run_pre h1]
    cases f' with
    | none => exact h2.elim
    | some p =>
      obtain ⟨j, u⟩ := p
      obtain ⟨rfl, _⟩ := h2
      cases e
      simp only []
      obtain ⟨w', a1, a2, a3⟩ := setMap_ok (P := P) h hr hx hb (n := es.eraseIdx i) (n' := es'.eraseIdxIfInBounds i) clock (by
        have : (es'.eraseIdxIfInBounds i).toList = es'.toList.eraseIdx i := by simp
        rw [this]
        exact hl.erase i)
      exact ⟨w', by rw [run_then a1]; rfl, a2, a3⟩
  · rename_i hc hf
    cases e
    rw [run_pre hc]
    obtain ⟨f', h1, h2⟩ := findKey_rel (P := P) kt k' hl _ hf
    rw [run_pre h1]
    cases f' with
    | some p => exact h2.elim
    | none =>
      simp only []
      obtain ⟨w', a1, a2, a3⟩ := setMap_ok (P := P) h hr hx hb (n := es) (n' := es') clock hl
      exact ⟨w', by rw [run_then a1]; rfl, a2, a3⟩
  · cases e

/-- The next character. -/
def nextS (S : SH) (it : Value) (str : Bool) : Option (Value × SH) :=
  match it, str with
  | .pointer (some ⟨r, 0, none⟩), true => match S.get r with
    | some (.siter s pos) => if pos < s.size then (match Utf8.decode s pos with
        | (c, width) => some (.tuple #[.bool true, goInt pos, .int .i32 c], S.set r (.siter s (pos + width))))
      else some (.tuple #[.bool false], S)
    | _ => none
  | _, _ => none

theorem next_ok (h : Sim w0 g S w) {ty : TypeId} {it it' : Value} {str : Bool} {v : Value} {S' : SH} (e : nextS S it str = some (v, S')) (hi : VR g it it') :
    ∃ v' w', (Instr.next it' str ty).run P w = .ok v' w' ∧ VR g v v' ∧ Sim w0 g S' w' ∧ w.heap.size ≤ w'.heap.size := by
  unfold nextS at e
  split at e
  case h_2 => cases e
  rename_i r
  split at e
  case h_2 => cases e
  rename_i s pos hr
  obtain ⟨_, x, hx, rfl⟩ := hi.ptr_inv
  obtain ⟨y, hy, hb⟩ := h.live r _ hr
  rw [hx] at hy; cases hy
  unfold Instr.next
  simp only []
  have hb : w.heap[x.b]? = some (.stringIter s pos) := hb
  rw [run_then (run_getObj hb (by simp))]
  simp only []
  split at e
  · rename_i hlt
    rw [if_pos hlt]
    generalize Utf8.decode s pos = q at e ⊢
    obtain ⟨c, wd⟩ := q
    cases e
    refine ⟨.tuple #[.bool true, goInt pos, .int .i32 c], { w with heap := w.heap.setIfInBounds x.b (.stringIter s (pos + wd)) }, ?_, .closed (n := 4) rfl, h.upd hr rfl hx kp_setObj (o' := .siter s (pos + wd)) ?_, by simp⟩
    · simp only []
      rw [run_then (run_setObj hb (by simp))]
      rfl
    · simp [OR, Array.getElem?_setIfInBounds, block_lt hb]
  · rename_i hlt
    rw [if_neg hlt]
    cases e
    exact ⟨_, w, rfl, .closed (n := 4) rfl, h, Nat.le_refl _⟩
end
end Go.Proofs.Ytckejldjoajpgaa
