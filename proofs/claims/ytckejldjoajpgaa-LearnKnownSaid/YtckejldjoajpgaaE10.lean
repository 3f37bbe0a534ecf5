/- Operations that read memory, and those that lay new blocks, run on the shadow: one by one. Nothing of the program. -/
import Derived.Test.YtckejldjoajpgaaE9
import Derived.Laws.BytesString
namespace Go.Proofs.Ytckejldjoajpgaa
open Go
set_option linter.all false

def intsOf : List Value → Option (List Int)
  | [] => some []
  | .int .u8 n :: r => match intsOf r with
    | some ns => some (n :: ns)
    | none => none
  | _ => none

theorem intsOf_some : ∀ {cs : List Value} {ns : List Int}, intsOf cs = some ns → cs = ns.map (Value.int .u8)
  | [], ns, h => by cases h; rfl
  | .int .u8 n :: r, ns, h => by
    simp only [intsOf] at h
    split at h
    · rename_i ms hm
      cases h
      rw [intsOf_some hm]; rfl
    · cases h
  | .int .u16 _ :: _, _, h | .int .u32 _ :: _, _, h | .int .u64 _ :: _, _, h | .int .i8 _ :: _, _, h | .int .i16 _ :: _, _, h | .int .i32 _ :: _, _, h | .int .i64 _ :: _, _, h => nomatch h
  | .bool _ :: _, _, h | .float _ _ :: _, _, h | .complex _ _ _ :: _, _, h | .string _ :: _, _, h | .pointer _ :: _, _, h | .slice _ _ _ :: _, _, h | .map _ :: _, _, h | .chan _ :: _, _, h | .func _ _ _ :: _, _, h | .nilFunc :: _, _, h | .iface _ _ :: _, _, h | .nilIface :: _, _, h | .agg _ :: _, _, h | .tuple _ :: _, _, h => nomatch h

/-- The value of an operation that reads. -/
def qVal (P : Program) (N : Nat) (S : SH) (ts : List Value) (o : Oper) : Option Value :=
  if allS ts o.op then
    match o.op with
    | .load t x => match sv ts x with
      | .pointer (some ⟨r, q, none⟩) => loadS P S t r q
      | _ => none
    | .lookup t m k ok => lookS P N S t (sv ts m) (sv ts k) ok
    | .convert s d x => match sv ts x, prun P (underlying s), prun P (underlying d) with
      | .slice (some ⟨r, q, none⟩) l _, some (.slice e), some .string => (match prun P (underlying e), cellsAt S r q l with
        | some (.int .u8), some cs => (match intsOf cs with
          | some ns => some (.string (ns.foldl (fun r n => r.push (UInt8.ofNat n.toNat)) ByteArray.empty))
          | none => none)
        | _, _ => none)
      | _, _, _ => none
    | .call c => match c.callee with
      | .builtin .len => if c.args.size = 1 then (match c.argTypes[0]?, entriesOf S (sv ts (c.args.getD 0 default)) with
        | some t, some es => match prun P (underlying t) with
          | some (.map _ _) => some (goInt es.length)
          | _ => none
        | _, _ => none) else none
      | _ => none
    | _ => none
  else none

/-- A row of parts: its element's type, its cells. -/
def buildRowS (P : Program) (N : Nat) (t : TypeId) (len : Nat) (parts : List (Nat × Value)) : Option (TypeId × Array Value) :=
  match prun P (underlying t) with
  | some (.slice e) => match prun P (sizeOf e) with
    | some size =>
      if len * size > 2 ^ 24 then none else
      match (if len * size = 0 then some #[] else if e < N then (match prun P (zeroValue e) with | some z => some z.cells | none => none) else none) with
      | some zero => match Instr.fill (fun i => some (i * size, size)) ((Array.range (len * size)).map (zero[· % zero.size]!)) parts with
        | some cells => some (e, cells)
        | none => none
      | none => none
    | none => none
  | _ => none

/-- An operation that lays a new block: its value, what stands in the block (by name fr). -/
def aVal (P : Program) (N : Nat) (fr : Nat) (ts : List Value) (o : Oper) : Option (Value × SO) :=
  if allS ts o.op then
    match o.op with
    | .alloc t => if t < N then (match prun P (zeroValue t) with | some z => some (.pointer (some ⟨fr, 0, none⟩), .cells z.cells.toList t) | none => none) else none
    | .box t x => some (.pointer (some ⟨fr, 0, none⟩), .cells (sv ts x).cells.toList t)
    | .buildSlice t len parts => if len = UNK then none else (match buildRowS P N t len (parts.toList.map fun (i, x) => (i, sv ts x)) with
      | some (e, cells) => some (.slice (some ⟨fr, 0, none⟩) len len, .cells cells.toList e)
      | none => none)
    | .makeMap t none => some (.map (some fr), .map [] 0)
    | .range t x => match sv ts x, prun P (underlying t) with
      | .string s, some .string => some (.pointer (some ⟨fr, 0, none⟩), .siter s 0)
      | _, _ => none
    | .convert s d x => match sv ts x, prun P (underlying s), prun P (underlying d) with
      | .string b, some .string, some (.slice e) => (match prun P (underlying e) with
        | some (.int .u8) => some (.slice (some ⟨fr, 0, none⟩) b.size UNK, .row (b.data.toList.map fun c => .int .u8 c.toNat) e 1)
        | _ => none)
      | _, _, _ => none
    | _ => none
  else none

section
variable {P : Program} {w0 w : World} {g : Gm} {S : SH} {ts : List Value} {a : Act}

theorem qVal_ok {N : Nat} (hz : ZC P N) (h : Sim w0 g S w) (ht : LR g ts a.tmps.toList) {o : Oper} {v : Value} (e : qVal P N S ts o = some v) : ∃ v', VR g v v' ∧ (execOp a.eval o).run P w = .ok (.value v') w := by
  obtain ⟨dst, op, ty, pos, after, guard⟩ := o
  unfold qVal at e
  split at e
  case isFalse => cases e
  rename_i hall
  have K : ∀ x ∈ op.operands.toList, VR g (sv ts x) (a.eval x) := fun x hx => sv_ok ht hall hx
  have fin : ∀ {s : Sem Value} {v' : Value}, s.run P w = .ok v' w → (do pure (Next.value (← s)) : Sem Next).run P w = .ok (.value v') w := fun h => by rw [run_then h]; rfl
  cases op with
  | load t x =>
    have hx := K x (by simp [Op.operands])
    simp only [] at e
    split at e
    · rename_i r q hs
      rw [hs] at hx
      obtain ⟨_, nm, hn, h2⟩ := hx.ptr_inv
      obtain ⟨v', h3, h4⟩ := load_ok h e hn
      refine ⟨v', h3, ?_⟩
      simp only [execOp, h2]
      exact fin h4
    · cases e
  | convert s d x =>
    have hx := K x (by simp [Op.operands])
    simp only [] at e
    split at e
    case h_2 => cases e
    rename_i r q l c el hs hsu hdu
    split at e
    case h_2 => cases e
    rename_i cs heu hcs
    split at e
    case h_2 => cases e
    rename_i ns hns
    cases e
    rw [hs] at hx
    obtain ⟨_, nm, hn, h2, _⟩ := hx.slice_inv
    obtain ⟨cs', hl, hlen, hcell⟩ := h.cells hcs hn
    have he := intsOf_some hns
    have hcc : LR g cs cs := .of_closed (n := 1) (by rw [he]; simp [closed])
    have : cs' = cs := by
      apply List.ext_getElem hl.1.symm
      intro i h1 h2
      exact (hl.2 i cs[i] _ (by simp [h2]) (by simp [h1])).det (hcc.2 i cs[i] _ (by simp [h2]) (by simp [h2]))
    subst this
    have h1 := run_loadCells_list (P := P) w ⟨nm.b, q, none⟩ cs' (fun j v hj => by rw [add_none]; exact (hcell j v hj).1)
    rw [hlen, he] at h1
    refine ⟨.string (ns.foldl (fun r n => r.push (UInt8.ofNat n.toNat)) ByteArray.empty), .closed (n := 1) rfl, ?_⟩
    simp only [execOp, h2]
    refine fin ?_
    unfold convert
    rw [run_pre hsu, run_pre hdu]
    simp only []
    rw [run_pre heu]
    exact run_bytesToString w _ _ _ ns h1
  | lookup t m k ok =>
    obtain ⟨v', h3, h4⟩ := look_ok hz h e (K m (by simp [Op.operands])) (K k (by simp [Op.operands]))
    exact ⟨v', h3, fin h4⟩
  | call c =>
    obtain ⟨callee, args, ats⟩ := c
    simp only [] at e
    cases callee with
    | builtin b =>
      have Ka : ∀ x ∈ args.toList, VR g (sv ts x) (a.eval x) := fun x hx => K x (by simp [Op.operands, Call.operands]; simpa using hx)
      cases b with
      | len =>
        simp only [] at e
        split at e
        · rename_i h1
          obtain ⟨x, rfl⟩ : ∃ x, args = #[x] := by
            obtain ⟨l⟩ := args
            match l, h1 with
            | [x], _ => exact ⟨x, rfl⟩
          split at e
          case h_2 => cases e
          rename_i t es hat hes
          split at e
          case h_2 => cases e
          rename_i kt et hu
          cases e
          refine ⟨goInt es.length, .closed (n := 1) rfl, ?_⟩
          have hL : (Builtin.len_ ats ty #[a.eval x]).run P w = .ok (goInt es.length) w := by
            unfold Builtin.len_
            simp only [hat, List.getElem?_toArray, List.getElem?_cons_zero]
            rw [run_pre hu]
            rcases h.entries hes (Ka x (by simp)) with ⟨_, h2, rfl⟩ | ⟨r, clock, nm, es', _, _, _, h2, hb, hl⟩
            · rw [h2]; rfl
            · rw [h2]
              simp only []
              rw [run_then (run_getObj hb (by simp))]
              simp only []
              have := hl.length
              simp at this
              rw [this]; rfl
          have : execOp a.eval ⟨dst, .call ⟨.builtin .len, #[x], ats⟩, ty, pos, after, guard⟩ = (do pure (Next.value (← Builtin.len_ ats ty #[a.eval x]))) := by simp [execOp, resolve, invoke, builtin]
          rw [this]
          exact fin hL
        · cases e
      | _ => cases e
    | _ => cases e
  | _ => cases e

theorem run_choose {β : Type} {q : Question} (hq : q.forced = false) (f : Nat → Sem β) {w : World} : (choose q >>= f).run P w = (f (q.cut (w.tape w.drawn q))).run P w.drew := by
  show Sem.run P (Sem.choose q fun n => (Sem.pure n).bind f) w = _
  simp only [Sem.run, hq]
  rfl

theorem put_other {fr r : Nat} {x y : Nm} (h : g r = some y) (hf : g fr = none) : g.put fr x r = some y := Gm.le_put x hf _ _ h

theorem thaw0 (n : Nat) : Thaw n (0, 0) := fun i _ h => by simp at h

theorem aVal_ok {N : Nat} (hz : ZC P N) (h : Sim w0 g S w) (ht : LR g ts a.tmps.toList) {fr : Nat} (hfr : S.get fr = none) {o : Oper} {v : Value} {so : SO} (e : aVal P N fr ts o = some (v, so)) :
    ∃ v' x w', (execOp a.eval o).run P w = .ok (.value v') w' ∧ w.heap.size ≤ x.b ∧ Kn w w' ∧ OR (g.put fr x) so x w'.heap[x.b]? ∧ VR (g.put fr x) v v' := by
  have gfr := h.none_of hfr
  obtain ⟨dst, op, ty, pos, after, guard⟩ := o
  unfold aVal at e
  split at e
  case isFalse => cases e
  rename_i hall
  have K : ∀ x ∈ op.operands.toList, VR g (sv ts x) (a.eval x) := fun x hx => sv_ok ht hall hx
  have fin : ∀ {s : Sem Value} {v' : Value} {w' : World}, s.run P w = .ok v' w' → (do pure (Next.value (← s)) : Sem Next).run P w = .ok (.value v') w' := fun h => by rw [run_then h]; rfl
  have nv : ∀ (t : TypeId) (c : Array Value), (newRow t c).run P w = .ok ⟨w.heap.size, 0, none⟩ (w.alloc (.cells c t)) := fun t c => rfl
  have mine : ∀ (n k : Nat) (c : List Value) (c' : Array Value) (t : TypeId), LR g c c'.toList → OR (g.put fr ⟨w.heap.size, n, k⟩) (.cells c t) ⟨w.heap.size, n, k⟩ (w.alloc (.cells c' t)).heap[w.heap.size]? := fun n k c c' t hl =>
    ⟨c', (0, 0), alloc_new w _, hl.mono (Gm.le_put _ gfr), thaw0 _⟩
  cases op with
  | alloc t =>
    simp only [] at e
    split at e
    case isFalse => cases e
    rename_i hN
    split at e
    case h_2 => cases e
    rename_i z hzz
    cases e
    have hc := hz t z hN hzz
    refine ⟨.pointer (some ⟨w.heap.size, 0, none⟩), ⟨w.heap.size, 0, 0⟩, w.alloc (.cells z.cells t), ?_, Nat.le_refl _, (Kp.refl _ w).alloc _, mine 0 0 _ _ t (VR.closed hc).cells, .ptr (g.put_self fr ⟨w.heap.size, 0, 0⟩)⟩
    refine fin ?_
    unfold Instr.alloc
    rw [run_pre hzz]
    rfl
  | box t x =>
    cases e
    have hx := K x (by simp [Op.operands])
    refine ⟨.pointer (some ⟨w.heap.size, 0, none⟩), ⟨w.heap.size, 0, 0⟩, w.alloc (.cells (a.eval x).cells t), rfl, Nat.le_refl _, (Kp.refl _ w).alloc _, mine 0 0 _ _ t hx.cells, .ptr (g.put_self fr ⟨w.heap.size, 0, 0⟩)⟩
  | makeMap t r =>
    cases r with
    | some r => cases e
    | none =>
      cases e
      refine ⟨.map (some w.heap.size), ⟨w.heap.size, 0, 0⟩, w.alloc (.map #[] 0), rfl, Nat.le_refl _, (Kp.refl _ w).alloc _, ⟨#[], alloc_new w _, .nil⟩, .map (g.put_self fr ⟨w.heap.size, 0, 0⟩)⟩
  | range t x =>
    have hx := K x (by simp [Op.operands])
    simp only [] at e
    split at e
    case h_2 => cases e
    rename_i s hs hu
    cases e
    rw [hs] at hx
    refine ⟨.pointer (some ⟨w.heap.size, 0, none⟩), ⟨w.heap.size, 0, 0⟩, w.alloc (.stringIter s 0), ?_, Nat.le_refl _, (Kp.refl _ w).alloc _, alloc_new w _, .ptr (g.put_self fr ⟨w.heap.size, 0, 0⟩)⟩
    simp only [execOp, hx.string_inv]
    refine fin ?_
    unfold Instr.range
    rw [run_pre hu]
    rfl
  | buildSlice t len parts =>
    simp only [] at e
    split at e
    case isTrue => cases e
    rename_i hlen
    split at e
    case h_2 => cases e
    rename_i el cells hb
    cases e
    unfold buildRowS at hb
    split at hb
    case h_2 => cases hb
    rename_i e1 hu
    split at hb
    case h_2 => cases hb
    rename_i size hsz
    split at hb
    case isTrue => cases hb
    rename_i hsmall
    split at hb
    case h_2 => cases hb
    rename_i zero hzero
    split at hb
    case h_2 => cases hb
    rename_i cells2 hf
    cases hb
    have hzl : LR g zero.toList zero.toList := by
      split at hzero
      · cases hzero; exact .nil
      · split at hzero
        · split at hzero
          · rename_i hN _ z hzz
            cases hzero
            exact (VR.closed (hz _ z hN hzz)).cells
          · cases hzero
        · cases hzero
    have hinit : LR g ((Array.range (len * size)).map (zero[· % zero.size]!)).toList ((Array.range (len * size)).map (zero[· % zero.size]!)).toList := by
      refine ⟨rfl, fun i v v' h1 h2 => ?_⟩
      rw [h1] at h2; cases h2
      simp only [Array.toList_map, List.getElem?_map, Option.map_eq_some_iff] at h1
      obtain ⟨j, _, rfl⟩ := h1
      by_cases hj : j % zero.size < zero.size
      · have : zero[j % zero.size]? = some (zero[j % zero.size]!) := by simp [hj]
        exact hzl.2 (j % zero.size) _ _ (by simpa using this) (by simpa using this)
      · have : zero[j % zero.size]! = default := by simp [hj]
        rw [this]
        exact .closed (n := 1) rfl
    have hp := l2_parts (g := g) (ts := ts) (a := a) parts.toList fun x hx => K x (by simpa [Op.operands] using hx)
    obtain ⟨out', h1, h2⟩ := fill_rel _ hp hinit _ hf
    refine ⟨.slice (some ⟨w.heap.size, 0, none⟩) len len, ⟨w.heap.size, 0, 0⟩, w.alloc (.cells out' el), ?_, Nat.le_refl _, (Kp.refl _ w).alloc _, mine 0 0 _ _ el h2, .slice (g.put_self fr ⟨w.heap.size, 0, 0⟩) hlen⟩
    simp only [execOp]
    refine fin ?_
    unfold Instr.buildSlice
    rw [run_pre hu]
    simp only []
    rw [run_pre hsz]
    simp only [if_neg hsmall]
    have R : ((match Instr.fill (fun i => some (i * size, size)) ((Array.range (len * size)).map (zero[· % zero.size]!)) (parts.map fun (i, x) => (i, a.eval x)).toList with
          | some cells => do pure (Value.slice (some (← newRow el cells)) len len)
          | _ => stuck "buildSlice: a part of the wrong size") : Sem Value).run P w = .ok (.slice (some ⟨w.heap.size, 0, none⟩) len len) (w.alloc (.cells out' el)) := by
      rw [Array.toList_map, h1]
      rfl
    split at hzero
    · rename_i h0; cases hzero; rw [if_pos h0]; exact R
    · rename_i h0
      rw [if_neg h0]
      split at hzero
      · split at hzero
        · rename_i z hzz
          cases hzero
          rw [run_pre hzz]
          exact R
        · cases hzero
      · cases hzero
  | convert s d x =>
    have hx := K x (by simp [Op.operands])
    simp only [] at e
    split at e
    case h_2 => cases e
    rename_i b el hs hsu hdu
    split at e
    case h_2 => cases e
    rename_i heu
    cases e
    rw [hs] at hx
    have hx := hx.string_inv
    have hq : ∃ cap, b.size ≤ cap ∧ ∀ (f : Nat → Sem Value), (choose (.appendCap b.size 0 el) >>= f).run P w = (f cap).run P w.drew := by
      exact ⟨Question.cut (.appendCap b.size 0 el) (w.tape w.drawn (.appendCap b.size 0 el)), by simp [Question.cut], fun f => run_choose rfl f⟩
    obtain ⟨cap, hcap, hch⟩ := hq
    let cs : Array Value := (b.data.map fun c => Value.int .u8 c.toNat) ++ Array.replicate (cap - b.size) (.int .u8 0)
    have hcs : cs.size = cap := by
      have : b.data.size = b.size := rfl
      simp [cs, this]; omega
    let w1 := w.drew.alloc (.cells cs el)
    have hw1 : w1.heap[w.heap.size]? = some (.cells cs el (0, 0)) := alloc_new w.drew _
    let w2 := w1.freeze ⟨w.heap.size, cap, none⟩ 1
    have hw2 : w2.heap = w1.heap.modify w.heap.size (fun
      | .cells c elem (lo, hi) => .cells c elem (if lo == hi then (cap, cap + 1) else (min lo cap, max hi (cap + 1)))
      | o => o) := rfl
    have hk : Kn w w2 := by
      have k1 : Kn w w1 := ((Kp.refl _ w).drew).alloc _
      refine ⟨k1.os, k1.tape, k1.output, by rw [hw2, Array.size_modify]; exact k1.size, fun k hk hf => ?_⟩
      rw [hw2, Array.getElem?_modify, if_neg (by omega)]
      exact k1.block k hk hf
    refine ⟨.slice (some ⟨w.heap.size, 0, none⟩) b.size cap, ⟨w.heap.size, 1, cap⟩, w2, ?_, Nat.le_refl _, hk, ⟨cs, (cap, cap + 1), ?_, ?_, ?_, by simp, rfl, by simp [hcs]⟩, ?_⟩
    · simp only [execOp, hx]
      refine fin ?_
      unfold convert
      rw [run_pre hsu, run_pre hdu]
      simp only []
      rw [run_pre heu]
      simp only []
      unfold Conv.stringToBytes
      rw [hch]
      simp only []
      have h2 : (markStringish ⟨w.heap.size, 0, none⟩).run P w1 = .ok () w2 := by
        unfold markStringish
        have : (shape w.heap.size).run P w1 = .ok (some (el, cap)) w1 := by
          simp [shape, Sem.run, World.shape?, hw1, hcs]
        rw [run_then this]
        rfl
      rw [run_then (show (newRow el cs).run P w.drew = .ok ⟨w.heap.size, 0, none⟩ w1 from rfl)]
      rw [run_then h2]
      rfl
    · rw [hw2, Array.getElem?_modify, if_pos rfl, hw1]
      rfl
    · refine ⟨by simp [hcs]; have : b.data.size = b.size := rfl; omega, fun i v v' h1 h2 => ?_⟩
      rw [List.getElem?_take] at h2
      split at h2
      · rename_i hi
        simp at hi
        simp only [cs, Array.toList_append, Array.toList_map] at h2
        rw [List.getElem?_append_left (by simpa using hi)] at h2
        rw [h1] at h2
        cases h2
        simp only [List.getElem?_map, Option.map_eq_some_iff] at h1
        obtain ⟨c, _, rfl⟩ := h1
        exact .closed (n := 1) rfl
      · cases h2
    · intro i hi
      rw [hcs] at hi
      simp; omega
    · have := VR.sliceU (g := g.put fr ⟨w.heap.size, 1, cap⟩) (o := 0) (l := b.size) (g.put_self fr ⟨w.heap.size, 1, cap⟩) (by simpa using hcap)
      simpa using this
  | _ => cases e
end
end Go.Proofs.Ytckejldjoajpgaa
