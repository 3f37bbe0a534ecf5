/- Maps that are ranged over: all ways at once. Nothing of the program. -/
import Derived.Test.YtckejldjoajpgaaE18
namespace Go.Proofs.Ytckejldjoajpgaa
open Go
set_option linter.all false

/-- A map's iterator. -/
def rangeM (P : Program) (S : SH) (fr : Nat) (ts : List Value) (o : Oper) : Option (Value × SO) :=
  if allS ts o.op then
    match o.op with
    | .range t x => match sv ts x, prun P (underlying t) with
      | .map (some m), some (.map _ _) => match S.get m with
        | some (.map _ clock) => some (.pointer (some ⟨fr, 0, none⟩), .miter m clock #[] clock)
        | _ => none
      | _, _ => none
    | _ => none
  else none

def nextL (S : SH) (it : Value) : Option (List (Value × SH)) := match it with
  | .pointer (some ⟨r, 0, none⟩) => match S.get r with
    | some (.miter m since seen last) => match S.get m with
      | some (.map es clock) =>
        if since ≤ last && es.all (fun e => decide (e.born < since)) then
          match es.filter (fun e => !seen.contains e.born) with
          | [] => some [(.tuple #[.bool false], S)]
          | e :: left => some ((e :: left).map fun e => (.tuple #[.bool true, e.key, e.val], S.set r (.miter m since (seen.push e.born) clock)))
        else none
      | _ => none
    | _ => none
  | _ => none

def nextO (S : SH) (ts : List Value) (o : Oper) : Option (List (Value × SH)) :=
  if allS ts o.op then
    match o.op with
    | .next it false => nextL S (sv ts it)
    | _ => none
  else none

def entryO (S : SH) (ts : List Value) (o : Oper) : Option Value :=
  if allS ts o.op then
    match o.op with
    | .entry it => match sv ts it with
      | .pointer (some ⟨r, 0, none⟩) => match S.get r with
        | some (.miter m since seen last) => match S.get m, seen.back? with
          | some (.map es clock), some stamp => if clock = last then (match es.find? (fun e => e.born == stamp) with
            | some e => some (.tuple #[e.key, e.val])
            | none => none) else none
          | _, _ => none
        | _ => none
      | _ => none
    | _ => none
  else none

section
variable {P : Program} {w0 w : World} {g : Gm} {S : SH} {ts : List Value} {a : Act}

theorem rangeM_ok (h : Sim w0 g S w) (ht : LR g ts a.tmps.toList) {fr : Nat} (hfr : S.get fr = none) {o : Oper} {v : Value} {so : SO} (e : rangeM P S fr ts o = some (v, so)) :
    ∃ v' x w', (execOp a.eval o).run P w = .ok (.value v') w' ∧ w.heap.size ≤ x.b ∧ Kn w w' ∧ OR (g.put fr x) so x w'.heap[x.b]? ∧ VR (g.put fr x) v v' := by
  have gfr := h.none_of hfr
  obtain ⟨dst, op, ty, pos, after, guard⟩ := o
  unfold rangeM at e
  split at e
  case isFalse => cases e
  rename_i hall
  have K : ∀ x ∈ op.operands.toList, VR g (sv ts x) (a.eval x) := fun x hx => sv_ok ht hall hx
  cases op with
  | range t x =>
    have hx := K x (by simp [Op.operands])
    simp only [] at e
    split at e
    case h_2 => cases e
    rename_i m kt et hs hu
    split at e
    case h_2 => cases e
    rename_i es clock hm
    cases e
    rw [hs] at hx
    obtain ⟨nm, hn, hx⟩ := hx.map_inv
    obtain ⟨y, hy, es', hb, hl⟩ := h.live m _ hm
    rw [hn] at hy; cases hy
    refine ⟨.pointer (some ⟨w.heap.size, 0, none⟩), ⟨w.heap.size, 0, 0⟩, w.alloc (.mapIter (some nm.b) clock #[] clock), ?_, Nat.le_refl _, (Kp.refl _ w).alloc _, ⟨nm, put_other hn gfr, alloc_new w _⟩, .ptr (g.put_self fr ⟨w.heap.size, 0, 0⟩)⟩
    simp only [execOp, hx]
    have : (Instr.range t (.map (some nm.b))).run P w = .ok (.pointer (some ⟨w.heap.size, 0, none⟩)) (w.alloc (.mapIter (some nm.b) clock #[] clock)) := by
      unfold Instr.range
      rw [run_pre hu]
      simp only []
      rw [run_then (run_getObj hb (by simp))]
      rfl
    rw [run_then this]; rfl
  | _ => cases e

theorem L2.filter {es es' : List MapEntry} (h : L2 (ER g) es es') (p : Nat → Bool) : L2 (ER g) (es.filter fun e => p e.born) (es'.filter fun e => p e.born) := by
  induction h with
  | nil => exact .nil
  | cons hx _ ih =>
    simp only [List.filter_cons, ← hx.2.1]
    split
    · exact .cons hx ih
    · exact ih

theorem L2.all {es es' : List MapEntry} (h : L2 (ER g) es es') (p : Nat → Bool) : es.all (fun e => p e.born) = es'.all fun e => p e.born := by
  induction h with
  | nil => rfl
  | cons hx _ ih => simp only [List.all_cons, ← hx.2.1, ih]

theorem L2.find {es es' : List MapEntry} (h : L2 (ER g) es es') (p : Nat → Bool) {e : MapEntry} (he : es.find? (fun e => p e.born) = some e) : ∃ e', es'.find? (fun e => p e.born) = some e' ∧ ER g e e' := by
  induction h with
  | nil => cases he
  | cons hx _ ih =>
    rw [List.find?_cons] at he ⊢
    rw [← hx.2.1]
    split at he
    · cases he; exact ⟨_, rfl, hx⟩
    · exact ih he

theorem L2.at {es es' : List MapEntry} (h : L2 (ER g) es es') : ∀ {j : Nat} {e' : MapEntry}, es'[j]? = some e' → ∃ e, es[j]? = some e ∧ ER g e e' := by
  induction h with
  | nil => intro j e' he; simp at he
  | cons hx _ ih =>
    intro j e' he
    cases j with
    | zero => simp at he; subst he; exact ⟨_, rfl, hx⟩
    | succ j => simp at he ⊢; exact ih he

theorem vr_entry {e e' : MapEntry} (h : ER g e e') : VR g (.tuple #[.bool true, e.key, e.val]) (.tuple #[.bool true, e'.key, e'.val]) := by
  refine .tuple rfl (LR.toAgg (c := #[.bool true, e.key, e.val]) (c' := #[.bool true, e'.key, e'.val]) (.cons (.closed (n := 1) rfl) (.cons ?_ (.cons h.2.2.2 .nil)))).2
  rw [← h.1]; exact .closed h.2.2.1

theorem nextL_ok (h : Sim w0 g S w) {it it' : Value} {ty : TypeId} {l : List (Value × SH)} (e : nextL S it = some l) (hx : VR g it it') :
    ∃ r ∈ l, ∃ v' w', (Instr.next it' false ty).run P w = .ok v' w' ∧ VR g r.1 v' ∧ Sim w0 g r.2 w' := by
  unfold nextL at e
  split at e
  case h_2 => cases e
  rename_i r
  split at e
  case h_2 => cases e
  rename_i m since seen last hr
  split at e
  case h_2 => cases e
  rename_i es clock hm
  split at e
  case isFalse => cases e
  rename_i hc
  simp only [Bool.and_eq_true, decide_eq_true_eq] at hc
  obtain ⟨hsl, hbn⟩ := hc
  obtain ⟨_, x, hgx, rfl⟩ := hx.ptr_inv
  obtain ⟨x2, hx2, y, hgy, hbi⟩ := h.live r _ hr
  rw [hgx] at hx2; cases hx2
  obtain ⟨y2, hy2, es', hbm, hl⟩ := h.live m _ hm
  rw [hgy] at hy2; cases hy2
  have hbn' : es'.toList.all (fun e => decide (e.born < since)) = true := by rw [← hl.all fun b => decide (b < since)]; exact hbn
  have hold : ∀ z ∈ es'.toList, z.born < since := fun z hz => by simpa using List.all_eq_true.1 hbn' z hz
  have g1 : (getObj x.b).run P w = .ok (.mapIter (some y.b) since seen last) w := run_getObj hbi (by simp)
  have g2 : (getObj y.b).run P w = .ok (.map es' clock) w := run_getObj hbm (by simp)
  have hf := hl.filter fun b => !seen.contains b
  unfold Instr.next
  simp only []
  rw [show ∀ (f : Obj → Sem Value), (getObj x.b >>= f).run P w = (f (.mapIter (some y.b) since seen last)).run P w from fun f => run_then g1]
  simp only []
  rw [show ∀ (f : Obj → Sem Value), (getObj y.b >>= f).run P w = (f (.map es' clock)).run P w from fun f => run_then g2]
  simp only [next_test_false seen es' since last hold hsl, Bool.false_eq_true, if_false]
  have hL : (Array.filter (fun e => !seen.contains e.born) es').toList = es'.toList.filter fun e => !seen.contains e.born := by simp
  have hmem : ∀ x ∈ (Array.filter (fun e => !seen.contains e.born) es').toList, x.born < since := fun x hx => hold x (by simp at hx ⊢; exact hx.1)
  rw [← hL] at hf
  generalize Array.filter (fun e => !seen.contains e.born) es' = L at hmem hf ⊢
  have e1 : L.filter (fun x => decide (x.born < since)) = L := Array.filter_eq_self.2 (fun x hx => by simpa using hmem x (by simpa using hx))
  have e2 : L.filter (fun x => decide (x.born ≥ since)) = #[] := by
    rw [Array.filter_eq_empty_iff]
    intro x hx
    have := hmem x (by simpa using hx)
    simp
    omega
  simp only [e1, e2, Array.append_empty]
  split at e
  · rename_i hnil
    cases e
    rw [hnil] at hf
    have : L = #[] := by
      obtain ⟨L⟩ := L
      simp only at hf
      cases hf; rfl
    subst this
    refine ⟨_, List.mem_singleton.2 rfl, .tuple #[.bool false], w, ?_, .closed (n := 2) rfl, h⟩
    simp [choose, Sem.run, Question.forced]
  · rename_i e0 left hcons
    cases e
    rw [hcons] at hf
    have hsz : 0 < L.size := by
      obtain ⟨L⟩ := L
      simp only at hf
      cases hf; simp
    have hne : L.isEmpty = false := by
      unfold Array.isEmpty
      simpa using Nat.pos_iff_ne_zero.1 hsz
    simp only [hne, Bool.false_eq_true, if_false, Array.empty_append, Array.size_map]
    have hch : ∃ (j : Nat) (w1 : World), j < L.size ∧ Kn w w1 ∧ w1.heap = w.heap ∧ (choose (Question.mapNext L.size)).run P w = .ok j w1 := by
      by_cases hf : L.size ≤ 1
      · exact ⟨0, w, by omega, Kp.refl _ w, rfl, by simp [choose, Sem.run, Question.forced, hf]⟩
      · exact ⟨_, w.drew, Nat.mod_lt _ (by omega), (Kp.refl _ w).drew, rfl, by
          simp only [choose, Sem.run, Question.forced, decide_eq_true_eq, hf, if_false, Question.cut]
          rfl⟩
    obtain ⟨j, w1, hj, hk, hheap, hrun⟩ := hch
    obtain ⟨e1, hej, her⟩ := hf.at (j := j) (e' := L[j]) (by simp [hj])
    refine ⟨(.tuple #[.bool true, e1.key, e1.val], S.set r (.miter m since (seen.push e1.born) clock)), List.mem_map.2 ⟨e1, List.mem_of_getElem? hej, rfl⟩, .tuple #[.bool true, L[j].key, L[j].val], { w1 with heap := w1.heap.setIfInBounds x.b (.mapIter (some y.b) since (seen.push L[j].born) clock) }, ?_, vr_entry her, ?_⟩
    · rw [run_then hrun]
      simp only [Array.getElem?_map, Array.getElem?_eq_getElem hj, Option.map_some]
      have hset : (setObj x.b (.mapIter (some y.b) since (seen.push L[j].born) clock)).run P w1 = .ok () { w1 with heap := w1.heap.setIfInBounds x.b (.mapIter (some y.b) since (seen.push L[j].born) clock) } := by
        have hb1 : w1.heap[x.b]? = some (.mapIter (some y.b) since seen last) := by rw [hheap]; exact hbi
        simp [setObj, Sem.run, hb1]
      rw [run_then hset]
      rfl
    · have hb1 : w1.heap[x.b]? = some (.mapIter (some y.b) since seen last) := by rw [hheap]; exact hbi
      refine (h.kept hk).upd hr rfl hgx ?_ ⟨y, hgy, ?_⟩
      · exact ⟨rfl, rfl, rfl, by simp, fun k hk hne => by simp [Array.getElem?_setIfInBounds, Ne.symm hne]⟩
      · rw [her.2.1]
        have hlt := block_lt hb1
        simp [Array.getElem?_setIfInBounds, hlt]

theorem entryO_ok (h : Sim w0 g S w) (ht : LR g ts a.tmps.toList) {o : Oper} {v : Value} (e : entryO S ts o = some v) : ∃ v', VR g v v' ∧ (execOp a.eval o).run P w = .ok (.value v') w := by
  obtain ⟨dst, op, ty, pos, after, guard⟩ := o
  unfold entryO at e
  split at e
  case isFalse => cases e
  rename_i hall
  have K : ∀ x ∈ op.operands.toList, VR g (sv ts x) (a.eval x) := fun x hx => sv_ok ht hall hx
  cases op with
  | entry it =>
    have hx := K it (by simp [Op.operands])
    simp only [] at e
    split at e
    case h_2 => cases e
    rename_i r hs
    split at e
    case h_2 => cases e
    rename_i m since seen last hr
    split at e
    case h_2 => cases e
    rename_i es clock stamp hm hback
    split at e
    case isFalse => cases e
    rename_i hcl
    subst hcl
    split at e
    case h_2 => cases e
    rename_i en hfind
    cases e
    rw [hs] at hx
    obtain ⟨_, x, hgx, hx⟩ := hx.ptr_inv
    obtain ⟨x2, hx2, y, hgy, hbi⟩ := h.live r _ hr
    rw [hgx] at hx2; cases hx2
    obtain ⟨y2, hy2, es', hbm, hl⟩ := h.live m _ hm
    rw [hgy] at hy2; cases hy2
    obtain ⟨en', hf', her⟩ := hl.find (fun b => b == stamp) hfind
    refine ⟨.tuple #[en'.key, en'.val], .tuple rfl (LR.toAgg (c := #[en.key, en.val]) (c' := #[en'.key, en'.val]) (.cons (by rw [← her.1]; exact .closed her.2.2.1) (.cons her.2.2.2 .nil))).2, ?_⟩
    have : (Instr.entry (.pointer (some ⟨x.b, 0, none⟩))).run P w = .ok (.tuple #[en'.key, en'.val]) w := by
      unfold Instr.entry
      simp only []
      rw [show ∀ (f : Obj → Sem Value), (getObj x.b >>= f).run P w = (f (.mapIter (some y.b) since seen clock)).run P w from fun f => run_then (run_getObj hbi (by simp))]
      simp only [hback]
      rw [show ∀ (f : Obj → Sem Value), (getObj y.b >>= f).run P w = (f (.map es' clock)).run P w from fun f => run_then (run_getObj hbm (by simp))]
      have hf2 : es'.find? (fun e => e.born == stamp) = some en' := by rw [← Array.find?_toList]; exact hf'
      simp only [bne_self_eq_false, Bool.false_eq_true, if_false, hf2]
      rfl
    simp only [execOp, hx]
    rw [run_then this]; rfl
  | _ => cases e
end
end Go.Proofs.Ytckejldjoajpgaa
