/- Operations that change memory, run on the shadow: append. Nothing of the program. -/
import Derived.Test.YtckejldjoajpgaaE12
import Derived.Laws.Append
namespace Go.Proofs.Ytckejldjoajpgaa
open Go
set_option linter.all false

def byteVals (b : ByteArray) : List Value := b.data.toList.map fun c => .int .u8 c.toNat

/-- What is appended, or copied. -/
def srcS (S : SH) (size : Nat) (x : Value) : Option (Nat × List Value) := match x with
  | .slice (some ⟨r, o, none⟩) n _ => match cellsAt S r o (n * size) with
    | some cs => some (n, cs)
    | none => none
  | .slice none n _ => if n = 0 then some (0, []) else none
  | .string b => some (b.size, byteVals b)
  | _ => none

section
variable {P : Program} {w0 w : World} {g : Gm} {S : SH} {ts : List Value} {a : Act}

theorem src_ok (h : Sim w0 g S w) {size n : Nat} {x x' : Value} {cs : List Value} (e : srcS S size x = some (n, cs)) (hx : VR g x x') :
    ∃ cs', LR g cs cs' ∧ (Builtin.lenOf x').run P w = .ok n w ∧ (Builtin.firstCells size n x').run P w = .ok cs'.toArray w := by
  unfold srcS at e
  split at e
  · rename_i r o m c
    split at e
    case h_2 => cases e
    rename_i cs2 hcs
    cases e
    obtain ⟨_, nm, hn, rfl, _⟩ := hx.slice_inv
    obtain ⟨cs', hl, hlen, hc⟩ := h.cells hcs hn
    have h1 := run_loadCells_list (P := P) w ⟨nm.b, o, none⟩ cs' (fun j v hj => by rw [add_none]; exact (hc j v hj).1)
    have h2 : cs'.length = n * size := by rw [← hl.1, hlen]
    rw [h2] at h1
    exact ⟨cs', hl, rfl, h1⟩
  · split at e
    · cases e
      rename_i h0
      subst h0
      rw [hx.slice_nil]
      exact ⟨[], .nil, rfl, rfl⟩
    · cases e
  · rename_i b
    cases e
    rw [hx.string_inv]
    refine ⟨byteVals b, ⟨rfl, fun i v v' h1 h2 => ?_⟩, rfl, ?_⟩
    · rw [h1] at h2; cases h2
      simp only [byteVals, List.getElem?_map, Option.map_eq_some_iff] at h1
      obtain ⟨c, _, rfl⟩ := h1
      exact .closed (n := 1) rfl
    · have hb : b.extract 0 b.size = b := by simp
      simp only [Builtin.firstCells, hb]
      show Result.ok _ w = Result.ok _ w
      congr 1
      apply Array.ext'
      simp [byteVals]
  · cases e

theorem app_pre (t xt e : TypeId) (d : TypeDesc) (i : TypeInfo) {ats : Array TypeId} (h0 : ats[0]? = some t) (h1 : ats[1]? = some xt) (hu : prun P (underlying t) = some (.slice e)) (hd : prun P (underlying xt) = some d) (hni : ∀ k, d ≠ .int k)
    (hi : prun P (typeInfo e) = some i) (ty : TypeId) (base : Option Addr) (l c : Nat) (x : Value) {n : Nat} (hn : (Builtin.lenOf x).run P w = .ok n w) :
    (l + n ≤ c → ∀ (cs : List Value) (w' : World), (Builtin.firstCells i.size n x).run P w = .ok cs.toArray w → (match base with | none => w' = w | some a => (storeCells (a.add (l * i.size)) cs).run P w = .ok () w') → (Builtin.append_ ats ty #[.slice base l c, x]).run P w = .ok (.slice base (l + n) c) w') ∧
    (¬ l + n ≤ c → (l + n) * i.bytes ≤ 140737488355328 → l + n ≤ 1000000000 → ∀ z, i.zero = some z → ∀ (olds cs : List Value), (Builtin.firstCells i.size l (.slice base l c)).run P w.drew = .ok olds.toArray w.drew → (Builtin.firstCells i.size n x).run P w.drew = .ok cs.toArray w.drew →
      ∃ cap, l + n ≤ cap ∧ (Builtin.append_ ats ty #[.slice base l c, x]).run P w = .ok (.slice (some ⟨w.heap.size, 0, none⟩) (l + n) cap) (w.drew.alloc (.cells (olds.toArray ++ cs.toArray ++ Builtin.zeroCells z.cells (cap - (l + n))) e))) := by
  have hs : prun P (sizeOf e) = some i.size := by unfold sizeOf; rw [prun_bind, hi]; rfl
  constructor
  · intro hroom cs w' hf hst
    unfold Builtin.append_
    simp only [h0, h1, List.getElem?_toArray, List.getElem?_cons_zero, List.getElem?_cons_succ]
    rw [run_pre hu]
    simp only []
    rw [run_pre hs]
    rw [run_pre hd]
    refine (run_then (a := false) (w1 := w) (by cases d <;> first | rfl | exact absurd rfl (hni _))).trans ?_
    simp only [Bool.false_eq_true, if_false, Bool.not_false, if_true]
    refine (run_then hn).trans ?_
    rw [if_pos hroom]
    refine (run_then hf).trans ?_
    cases base with
    | none => simp only at hst; subst hst; rfl
    | some a => exact (run_then hst).trans rfl
  · intro hgrow hby hsm z hz olds cs ho hf
    refine ⟨Question.cut (.appendCap (l + n) c e) (w.tape w.drawn (.appendCap (l + n) c e)), by simp [Question.cut], ?_⟩
    unfold Builtin.append_
    simp only [h0, h1, List.getElem?_toArray, List.getElem?_cons_zero, List.getElem?_cons_succ]
    rw [run_pre hu]
    simp only []
    rw [run_pre hs]
    rw [run_pre hd]
    refine (run_then (a := false) (w1 := w) (by cases d <;> first | rfl | exact absurd rfl (hni _))).trans ?_
    simp only [Bool.false_eq_true, if_false, Bool.not_false, if_true]
    refine (run_then hn).trans ?_
    rw [if_neg hgrow]
    refine (run_pre hi).trans ?_
    rw [if_neg (by rw [show IntKind.i64.max = 9223372036854775807 from rfl]; omega)]
    refine (run_pre hi).trans ?_
    rw [if_neg (by have := growslice_fits (by omega : c < l + n) hby; simpa using this)]
    refine (run_choose rfl _).trans ?_
    refine (run_pre hi).trans ?_
    refine (run_then (a := ()) (w1 := w.drew) (by unfold askRoom; split <;> rfl)).trans ?_
    refine (run_then ho).trans ?_
    refine (run_then hf).trans ?_
    refine (run_pre (show prun P (zeroValue e) = some z by unfold zeroValue; rw [prun_bind, hi]; simp [hz, Pure.pure, prun])).trans ?_
    rfl

def isIntD : TypeDesc → Bool
  | .int _ => true
  | _ => false

/-- Append. -/
def appS (P : Program) (S : SH) (fr : Nat) (ats : Array TypeId) (s x : Value) : Option (Value × SH) :=
  match ats[0]?, ats[1]? with
  | some t, some xt => match prun P (underlying t), prun P (underlying xt) with
    | some (.slice e), some d => if isIntD d then none else
      match prun P (typeInfo e) with
      | some i => match i.zero, srcS S i.size x with
        | some z, some (n, news) => if z.cells.size = i.size ∧ 0 < i.size ∧ news.length = n * i.size ∧ news.all (·.oneCell') = true then
            match s with
            | .slice none l c => if l = 0 ∧ c = 0 then (if n = 0 then some (s, S)
                else if n * i.bytes ≤ 1000000000 ∧ n ≤ 1000000000 then some (.slice (some ⟨fr, 0, none⟩) n UNK, S.set fr (.row news e i.size)) else none) else none
            | .slice (some ⟨r, o, none⟩) l c =>
              if c = UNK then
                if o = 0 then
                  match S.get r with
                  | some (.row k te sz) => if sz = i.size ∧ te = e then
                      if (l + n) * i.size ≤ k.length then (match setS S r (l * i.size) news with | some S' => some (.slice (some ⟨r, 0, none⟩) (l + n) UNK, S') | none => none)
                      else if l * i.size ≤ k.length ∧ (l + n) * i.bytes ≤ 1000000000 ∧ l + n ≤ 1000000000 then
                        some (.slice (some ⟨fr, 0, none⟩) (l + n) UNK, (S.set r .dead).set fr (.row (k.take (l * i.size) ++ news) e i.size))
                      else none
                    else none
                  | _ => none
                else none
              else if l + n ≤ c then (match setS S r (o + l * i.size) news with | some S' => some (.slice (some ⟨r, o, none⟩) (l + n) c, S') | none => none)
              else match cellsAt S r o (l * i.size) with
                | some old => if (l + n) * i.bytes ≤ 1000000000 ∧ l + n ≤ 1000000000 then some (.slice (some ⟨fr, 0, none⟩) (l + n) UNK, S.set fr (.row (old ++ news) e i.size)) else none
                | none => none
            | _ => none
          else none
        | _, _ => none
      | none => none
    | _, _ => none
  | _, _ => none

/-- The new row of an append. -/
theorem grown_row {fr : Nat} (gfr : g fr = none) {e : TypeId} {olds news olds' news' : List Value} (ho : LR g olds olds') (hn : LR g news news') {l n cap sz : Nat} (h0 : 0 < sz) (hl : olds.length = l * sz) (hm : news.length = n * sz) (hc : l + n ≤ cap) {z : Array Value} (hz : z.size = sz) :
    OR (g.put fr ⟨w.heap.size, sz, cap⟩) (.row (olds ++ news) e sz) ⟨w.heap.size, sz, cap⟩ (w.drew.alloc (.cells (olds'.toArray ++ news'.toArray ++ Builtin.zeroCells z (cap - (l + n))) e)).heap[w.heap.size]? := by
  have hol : olds'.length = l * sz := by rw [← ho.1]; exact hl
  have hnl : news'.length = n * sz := by rw [← hn.1]; exact hm
  refine ⟨_, (0, 0), alloc_new w.drew _, ?_, thaw0 _, h0, rfl, ?_⟩
  · have : (olds'.toArray ++ news'.toArray ++ Builtin.zeroCells z (cap - (l + n))).toList.take (olds ++ news).length = olds' ++ news' := by
      rw [show (olds ++ news).length = (olds' ++ news').length by simp [ho.1, hn.1]]
      simp only [Array.toList_append]
      exact List.take_left
    rw [this]
    exact (ho.append hn).mono (Gm.le_put _ gfr)
  · simp only [Array.size_append, List.size_toArray, hol, hnl, size_zeroCells, hz]
    rw [← Nat.add_mul, ← Nat.add_mul]
    congr 1
    omega

theorem app_ok (h : Sim w0 g S w) {fr : Nat} (hfr : S.get fr = none) {ats : Array TypeId} (ty : TypeId) {s x s' x' : Value} {v : Value} {S' : SH} (e : appS P S fr ats s x = some (v, S')) (hs : VR g s s') (hx : VR g x x') :
    ∃ g' v' w', (Builtin.append_ ats ty #[s', x']).run P w = .ok v' w' ∧ g.le g' ∧ VR g' v v' ∧ Sim w0 g' S' w' ∧ w.heap.size ≤ w'.heap.size := by
  have gfr := h.none_of hfr
  unfold appS at e
  split at e
  case h_2 => cases e
  rename_i t xt h0 h1
  split at e
  case h_2 => cases e
  rename_i el d hu hd
  split at e
  case isTrue => cases e
  rename_i hni
  have hni : ∀ k, d ≠ .int k := fun k hk => by subst hk; exact hni rfl
  split at e
  case h_2 => cases e
  rename_i i hi
  split at e
  case h_2 => cases e
  rename_i z n news hz hsrc
  split at e
  case isFalse => cases e
  rename_i hc
  obtain ⟨hzs, hpos, hlen, hone⟩ := hc
  obtain ⟨cs', hl, hlo, hf⟩ := src_ok (P := P) h hsrc hx
  obtain ⟨_, hl2, _, hf2⟩ := src_ok (P := P) h.drew hsrc hx
  have hdet : ∀ {a b c : List Value}, LR g a b → LR g a c → b = c := fun {a b c} h1 h2 => by
    apply List.ext_getElem (by rw [← h1.1, h2.1])
    intro i hi1 hi2
    have hi : i < a.length := by rw [h1.1]; exact hi1
    exact (h1.2 i a[i] _ (by simp [hi]) (by simp [hi1])).det (h2.2 i a[i] _ (by simp [hi]) (by simp [hi2]))
  have := hdet hl hl2
  subst this
  have finishGrow : ∀ (base : Option Addr) (l c : Nat) (olds olds' : List Value), s' = .slice base l c → ¬ l + n ≤ c → (l + n) * i.bytes ≤ 1000000000 → l + n ≤ 1000000000 → LR g olds olds' → olds.length = l * i.size → (Builtin.firstCells i.size l (.slice base l c)).run P w.drew = .ok olds'.toArray w.drew →
      ∀ (S1 : SH), Sim w0 g S1 w → S1.get fr = none →
      ∃ g' v' w', (Builtin.append_ ats ty #[s', x']).run P w = .ok v' w' ∧ g.le g' ∧ VR g' (.slice (some ⟨fr, 0, none⟩) (l + n) UNK) v' ∧ Sim w0 g' (S1.set fr (.row (olds ++ news) el i.size)) w' ∧ w.heap.size ≤ w'.heap.size := by
    intro base l c olds olds' hs' hgrow hb hsm ho hol hof S1 h1' hf1
    subst hs'
    obtain ⟨cap, hcap, hrun⟩ := (app_pre t xt el d i h0 h1 hu hd hni hi ty base l c x' hlo).2 hgrow (by omega) hsm z hz _ _ hof hf2
    refine ⟨g.put fr ⟨w.heap.size, i.size, cap⟩, _, _, hrun, Gm.le_put _ gfr, ?_, ?_, by simp⟩
    · have := VR.sliceU (g := g.put fr ⟨w.heap.size, i.size, cap⟩) (o := 0) (l := l + n) (g.put_self fr ⟨w.heap.size, i.size, cap⟩) (by simpa using hcap)
      simpa using this
    · exact h1'.new ((Kp.refl _ w).drew.alloc _) hf1 (Nat.le_refl _) (grown_row gfr ho hl hpos hol hlen hcap hzs)
  split at e
  · -- nothing as yet
    rename_i l c
    split at e
    case isFalse => cases e
    rename_i hlc
    obtain ⟨rfl, rfl⟩ := hlc
    have hs' := hs.slice_nil
    split at e
    · rename_i hn0
      cases e
      subst hn0
      have hcs : cs' = [] := List.eq_nil_of_length_eq_zero (by rw [← hl.1, hlen]; simp)
      subst hcs
      refine ⟨g, .slice none 0 0, w, ?_, g.le_refl, .closed (n := 1) rfl, h, Nat.le_refl _⟩
      rw [hs']
      exact (app_pre t xt el d i h0 h1 hu hd hni hi ty none 0 0 x' hlo).1 (by simp) [] w hf rfl
    · rename_i hn0
      split at e
      case isFalse => cases e
      rename_i hb
      cases e
      have := finishGrow none 0 0 [] [] hs' (by omega) (by simpa using hb.1) (by simpa using hb.2) .nil (by simp) rfl S h hfr
      simpa using this
  · rename_i r o l c
    have hs2 := hs
    obtain ⟨_, nm, hn, hs', hle⟩ := hs.slice_inv
    split at e
    · rename_i hcU
      subst hcU
      have hle := hle rfl
      simp only [if_true] at hs'
      split at e
      case isFalse => cases e
      rename_i ho0
      subst ho0
      split at e
      case h_2 => cases e
      rename_i k te sz hr
      split at e
      case isFalse => cases e
      rename_i hst
      obtain ⟨rfl, rfl⟩ := hst
      obtain ⟨y, hy, cs, frz, hb, hlr, hthaw, hsz0, hysz, hcs⟩ := h.live r _ hr
      rw [hn] at hy; cases hy
      have hkl : k.length ≤ cs.size := by have := hlr.1; simp at this; omega
      simp only [Nat.zero_div, Nat.sub_zero] at hs' hle
      split at e
      · rename_i hin
        split at e
        case h_2 => cases e
        rename_i S2 hS2
        cases e
        obtain ⟨w', a1, a2, a3⟩ := setS_ok (P := P) h hS2 hn hl
        have hroom : l + n ≤ nm.n := by
          have : (l + n) * i.size ≤ nm.n * i.size := by rw [← hcs]; omega
          exact Nat.le_of_mul_le_mul_right this hpos
        refine ⟨g, .slice (some ⟨nm.b, 0, none⟩) (l + n) nm.n, w', ?_, g.le_refl, ?_, a2, a3⟩
        · rw [hs']
          exact (app_pre t xt te d i h0 h1 hu hd hni hi ty (some ⟨nm.b, 0, none⟩) l nm.n x' hlo).1 hroom _ w' hf (by simp only; rw [add_none]; simpa using a1)
        · have := VR.sliceU (g := g) (o := 0) (l := l + n) hn (by simpa using hroom)
          simpa using this
      · rename_i hnin
        split at e
        case isFalse => cases e
        rename_i hb3
        obtain ⟨hlk, hb1, hb2⟩ := hb3
        cases e
        by_cases hroom : l + n ≤ nm.n
        · -- in place
          have hone' := hl.one hone
          have hfit : 0 + l * i.size + 0 + cs'.length ≤ cs.size := by
            rw [← hl.1, hlen, hcs]
            have := Nat.mul_le_mul_right i.size hroom
            rw [Nat.add_mul] at this
            omega
          obtain ⟨w', cur', b1, b2, b3, b4⟩ := run_storeCells_own P nm.b (0 + l * i.size) te frz cs' 0 cs w hb hfit hthaw hone'
          have hcur : cur'.size = cs.size := by rw [← Array.length_toList, b4, setL_length]; simp
          refine ⟨g.put fr nm, .slice (some ⟨nm.b, 0, none⟩) (l + n) nm.n, w', ?_, Gm.le_put _ gfr, ?_, ?_, b2.size⟩
          · rw [hs']
            exact (app_pre t xt te d i h0 h1 hu hd hni hi ty (some ⟨nm.b, 0, none⟩) l nm.n x' hlo).1 hroom _ w' hf (by simp only; rw [add_none]; exact b1)
          · have := VR.sliceU (g := g.put fr nm) (o := 0) (l := l + n) (g.put_self fr nm) (by simpa using hroom)
            simpa using this
          · refine h.move hr rfl hn b2 hfr ⟨cur', frz, b3, ?_, by rw [hcur]; exact hthaw, hpos, hysz, by rw [hcur]; exact hcs⟩
            have hkt : (k.take (l * i.size)).length = l * i.size := by simp; omega
            have e1 : (k.take (l * i.size) ++ news).length = 0 + l * i.size + 0 + cs'.length := by rw [List.length_append, hkt, hl.1]; omega
            rw [b4, e1, setL_over cs' cs.toList _ (by simpa using hfit)]
            refine (LR.append ?_ hl).mono (Gm.le_put _ gfr)
            have := hlr.take (l * i.size)
            rw [List.take_take, Nat.min_eq_left hlk] at this
            simpa using this
        · have h1' : Sim w0 g (S.set r .dead) w := h.upd hr rfl hn (Kp.refl _ w) trivial
          have hne : fr ≠ r := fun e => by rw [e, hr] at hfr; cases hfr
          have hcells := h.drew.cells (r := r) (o := 0) (n := l * i.size) (cs := k.take (l * i.size)) (by unfold cellsAt; rw [hr]; simp only; rw [if_pos (by omega)]; simp) hn
          obtain ⟨olds', q1, q2, q3⟩ := hcells
          have hol : (k.take (l * i.size)).length = l * i.size := by simp; omega
          have hlc := run_loadCells_list (P := P) w.drew ⟨nm.b, 0, none⟩ olds' (fun j v hj => by rw [add_none]; exact (q3 j v hj).1)
          have hl3 : olds'.length = l * i.size := by rw [← q1.1, hol]
          rw [hl3] at hlc
          exact finishGrow (some ⟨nm.b, 0, none⟩) l nm.n _ _ hs' hroom hb1 hb2 q1 hol hlc (S.set r .dead) h1' (by rw [Tr.get_set, if_neg hne]; exact hfr)
    · rename_i hcU
      rw [if_neg hcU] at hs'
      split at e
      · rename_i hroom
        split at e
        case h_2 => cases e
        rename_i S2 hS2
        cases e
        obtain ⟨w', a1, a2, a3⟩ := setS_ok (P := P) h hS2 hn hl
        refine ⟨g, .slice (some ⟨nm.b, o, none⟩) (l + n) c, w', ?_, g.le_refl, .slice hn hcU, a2, a3⟩
        rw [hs']
        exact (app_pre t xt el d i h0 h1 hu hd hni hi ty (some ⟨nm.b, o, none⟩) l c x' hlo).1 hroom _ w' hf (by simp only; rw [add_none]; exact a1)
      · rename_i hroom
        split at e
        case h_2 => cases e
        rename_i old hold
        split at e
        case isFalse => cases e
        rename_i hb
        cases e
        obtain ⟨olds', q1, q2, q3⟩ := h.drew.cells hold hn
        have hlc := run_loadCells_list (P := P) w.drew ⟨nm.b, o, none⟩ olds' (fun j v hj => by rw [add_none]; exact (q3 j v hj).1)
        have hl3 : olds'.length = l * i.size := by rw [← q1.1, q2]
        rw [hl3] at hlc
        exact finishGrow (some ⟨nm.b, o, none⟩) l c _ _ hs' hroom hb.1 hb.2 q1 q2 hlc S h hfr
  · cases e
end
end Go.Proofs.Ytckejldjoajpgaa
