/- Regions on the shadow: in their order; or, where the order is drawn, by a plan. Nothing of the program. -/
import Derived.Test.YtckejldjoajpgaaE0
namespace Go.Proofs.Ytckejldjoajpgaa
open Go
set_option linter.all false

def putS (ts : List Value) (dst : Option Tmp) (v : Value) : List Value := match dst with
  | some t => ts.set t v
  | none => ts

theorem putS_ok {g : Gm} {ts : List Value} {a : Act} (h : LR g ts a.tmps.toList) {v v' : Value} (hv : VR g v v') (dst : Option Tmp) : LR g (putS ts dst v) (a.put dst v').tmps.toList := by
  cases dst with
  | none => exact h
  | some t => simp only [putS, Act.put, Array.toList_setIfInBounds]; exact h.set hv t

theorem put_defers (a : Act) (dst : Option Tmp) (v : Value) : (a.put dst v).defers = a.defers := by cases dst <;> rfl

theorem vr_undef {g : Gm} : VR g undef undef := .closed (n := 4) rfl

theorem yielded_eq {g : Gm} {ts : List Value} {tmps : Array Value} (h : LR g ts tmps.toList) (ops : Array Oper) : yielded ops tmps = yielded ops ts.toArray := by
  funext j
  unfold yielded
  cases hj : (ops[j]?).bind (·.dst) with
  | none => rfl
  | some t =>
    simp only [Option.bind]
    cases ht : ts.toArray[t]? with
    | none =>
      have : tmps[t]? = none := by
        have h1 : ts.length ≤ t := by simpa using ht
        simp; have := h.1; simp at this; omega
      rw [this]
    | some v =>
      obtain ⟨v', e, r⟩ := h.get (i := t) (v := v) (by simpa using ht)
      have e : tmps[t]? = some v' := by simpa using e
      rw [e]
      cases v with
      | bool b => rw [r.bool_inv]
      | _ => cases r <;> rfl

/-- A region in its own order. -/
def evSeq (P : Program) (N : Nat) (call : CallF) (ops : Array Oper) : List Oper → List Value → SH → Nat → Option (List Value × SH × Nat)
  | [], ts, S, d => some (ts, S, d)
  | o :: rest, ts, S, d =>
    if Region.wanted o (yielded ops ts.toArray) then
      match evOp P N call d (d + 1) ts S o with
      | some (v, S', d') => evSeq P N call ops rest (putS ts o.dst v) S' d'
      | none => none
    else evSeq P N call ops rest (putS ts o.dst undef) S d

section
variable {P : Program} {w0 w : World} {g : Gm} {S : SH} {ts : List Value} {a : Act} {Q : Exit → Act → World → Prop}

theorem evSeq_ok {N : Nat} (hz : ZC P N) {call : CallF} (hc : CallOk P call) {ops : Array Oper} : ∀ (l : List Oper) {ts : List Value} {S : SH} {d : Nat} {ts' : List Value} {S' : SH} {d' : Nat} {g : Gm} {a : Act} {w : World}, evSeq P N call ops l ts S d = some (ts', S', d') → Sim w0 g S w → LR g ts a.tmps.toList → a.defers = [] →
    (∀ g' a' w', g.le g' → Sim w0 g' S' w' → LR g' ts' a'.tmps.toList → a'.defers = [] → Q .normal a' w') → wpList P ops Q l a w
  | [], ts, S, d, ts', S', d', g, a, w, e, h, ht, hd, hq => by cases e; exact hq g a w g.le_refl h ht hd
  | o :: l, ts, S, d, ts', S', d', g, a, w, e, h, ht, hd, hq => by
    unfold evSeq at e
    unfold wpList
    rw [yielded_eq ht]
    split at e
    · rename_i hw
      rw [if_pos hw]
      split at e
      case h_2 => cases e
      rename_i v S1 d1 ho
      refine .inl (evOp_ok hz hc h ht ho fun g1 v' w1 hg hv hs => ?_)
      exact evSeq_ok hz hc l e hs (putS_ok (ht.mono hg) hv _) (by rw [put_defers]; exact hd) fun g' a' w' h1 h2 h3 h4 => hq g' a' w' (Gm.le_trans hg h1) h2 h3 h4
    · rename_i hw
      rw [if_neg hw]
      exact evSeq_ok hz hc l e h (putS_ok ht vr_undef _) (by rw [put_defers]; exact hd) hq

/-- A plan for a region that draws its order. -/
inductive TP where
  | zero
  | more (hd : List (Nat × Bool)) (rest : TP)
  | alt (k : Nat) (t : TP) (r : TP)
  | stop

def altKs : TP → List Nat
  | .alt k _ r => k :: altKs r
  | _ => []

/-- That a plan fits the operations. -/
def planOk (ops : Array Oper) (n : Nat) : TP → Bool → Nat → Array Bool → Bool
  | .zero, _, fuel, listed => fuel == 0 && (Region.ready .any ops listed).isEmpty
  | .more hd rest, _, fuel, listed => Region.noSelect ops && downB ops listed && headB ops n hd listed && (listed.size == ops.size) && decide (hd.length ≤ fuel) && planOk ops n rest true (fuel - hd.length) (headL hd listed)
  | .alt k t r, m, fuel, listed => (!m || (Region.ready .any ops listed == k :: altKs r)) && decide (0 < fuel) && planOk ops n t true (fuel - 1) (listed.setIfInBounds k true) && planOk ops n r false fuel listed
  | .stop, m, _, _ => !m

/-- Those that are taken first. -/
def evHead (P : Program) (N : Nat) (ops : Array Oper) (S : Option SH) : List (Nat × Bool) → List Value → Option (List Value)
  | [], ts => some ts
  | (i, p) :: r, ts => match ops[i]? with
    | some o => if Region.wanted o (yielded ops ts.toArray) then
        match pVal P N ts o with
        | some v => evHead P N ops S r (putS ts o.dst v)
        | none => match p, S with
          | true, some S => match qVal P N S ts o with
            | some v => evHead P N ops (some S) r (putS ts o.dst v)
            | none => none
          | _, _ => none
      else evHead P N ops S r (putS ts o.dst undef)
    | none => none

theorem evHead_ok {N : Nat} (hz : ZC P N) {ops : Array Oper} {A B : World → Prop} {R : Act → Prop} {So : Option SH} (hA : ∀ S, So = some S → (∀ w', A w' → Sim w0 g S w') ∧ ∃ w', A w') : ∀ (hd : List (Nat × Bool)) {ts ts' : List Value} {a : Act}, evHead P N ops So hd ts = some ts' → LR g ts a.tmps.toList → a.defers = [] →
    (∀ a', LR g ts' a'.tmps.toList → a'.defers = [] → R a') → wpHead P ops A B R hd a
  | [], ts, ts', a, e, ht, hdf, hR => by cases e; exact hR a ht hdf
  | (i, p) :: r, ts, ts', a, e, ht, hdf, hR => by
    unfold evHead at e
    split at e
    case h_2 => cases e
    rename_i o ho
    split at e
    · rename_i hw
      rw [← yielded_eq ht] at hw
      split at e
      · rename_i v hv
        obtain ⟨v', h1, h2⟩ := pVal_ok hz ht hv
        exact ⟨o, v', ho, .inl ⟨hw, fun w _ => h2 w⟩, evHead_ok hz hA r e (putS_ok ht h1 _) (by rw [put_defers]; exact hdf) hR⟩
      · split at e
        case h_2 => cases e
        rename_i S0
        split at e
        case h_2 => cases e
        rename_i v hv
        obtain ⟨hS, wA, hwA⟩ := hA _ rfl
        obtain ⟨v', h1, h2⟩ := qVal_ok hz (hS wA hwA) ht hv
        refine ⟨o, v', ho, .inl ⟨hw, fun w hw2 => ?_⟩, evHead_ok hz hA r e (putS_ok ht h1 _) (by rw [put_defers]; exact hdf) hR⟩
        obtain ⟨v2, h3, h4⟩ := qVal_ok hz (hS w (hw2.2 rfl)) ht hv
        rw [h4, h3.det h1]
    · rename_i hw
      rw [← yielded_eq ht] at hw
      exact ⟨o, undef, ho, .inr ⟨by simpa using hw, rfl⟩, evHead_ok hz hA r e (putS_ok ht vr_undef _) (by rw [put_defers]; exact hdf) hR⟩

/-- What comes behind those. -/
def evTP (P : Program) (N : Nat) (call : CallF) (ops : Array Oper) (n base : Nat) : TP → Array Bool → List Value → SH → Nat → Option (List Value × SH × Nat)
  | .zero, _, ts, S, d => some (ts, S, d)
  | .more hd rest, listed, ts, S, d => match evHead P N ops none hd ts with
    | some ts' => evTP P N call ops n base rest (headL hd listed) ts' S d
    | none => none
  | .alt k t r, listed, ts, S, d =>
    let X := match ops[k]? with
      | some o =>
        if Region.wanted o (yielded ops ts.toArray) then
          match (if (listed.setIfInBounds k true).getD n true then evOp P N call (base + k) d ts S o else evOpA P N (base + k) d ts S o) with
          | some (v, S', d') => evTP P N call ops n base t (listed.setIfInBounds k true) (putS ts o.dst v) S' d'
          | none => none
        else evTP P N call ops n base t (listed.setIfInBounds k true) (putS ts o.dst undef) S d
      | none => none
    match r with
    | .stop => X
    | r => both X (evTP P N call ops n base r listed ts S d)
  | .stop, _, _, _, _ => none

theorem headL_keep {n : Nat} : ∀ (hd : List (Nat × Bool)) (l : Array Bool), (headL hd l).getD n true = false → l.getD n true = false := by
  intro hd
  induction hd with
  | nil => intro l h; exact h
  | cons x r ih => intro l h; obtain ⟨i, p⟩ := x; exact getD_set_keep (ih _ h)

theorem evTP_ok {N : Nat} (hz : ZC P N) {call : CallF} (hc : CallOk P call) {ops : Array Oper} {n base : Nat} {wS : World} (hQ : ∀ c a d v w, Q (.panic c) (Act.put a d v) w → Q (.panic c) a w) (tp : TP) : ∀ (fuel : Nat) (listed : Array Bool) {ts : List Value} {S : SH} {d : Nat} {ts' : List Value} {S' : SH} {d' : Nat} {g : Gm} {a : Act} {w : World},
    evTP P N call ops n base tp listed ts S d = some (ts', S', d') → Sim w0 g S w → LR g ts a.tmps.toList → a.defers = [] → (listed.getD n true = false → Kn wS w) →
    (∀ g' a' w', g.le g' → Sim w0 g' S' w' → LR g' ts' a'.tmps.toList → a'.defers = [] → Q .normal a' w') →
    (planOk ops n tp true fuel listed = true → wpAnyT P ops Q n (fun w' => Kn wS w') (fun _ => True) fuel listed a w) ∧
    (planOk ops n tp false fuel listed = true → ∀ i ∈ altKs tp, wpOp P ops Q i (fun a' w' => (True ∧ ((listed.setIfInBounds i true).getD n true = false → Kn wS w')) ∧ wpAnyT P ops Q n (fun w' => Kn wS w') (fun _ => True) (fuel - 1) (listed.setIfInBounds i true) a' w') a w) := by
  induction tp with
  | zero =>
    intro fuel listed ts S d ts' S' d' g a w e h ht hd hA hq
    refine ⟨fun hp => ?_, fun _ i hi => by simp [altKs] at hi⟩
    simp only [planOk, Bool.and_eq_true, beq_iff_eq] at hp
    obtain ⟨rfl, hp⟩ := hp
    cases e
    exact ⟨List.isEmpty_iff.1 hp, hq g a w g.le_refl h ht hd⟩
  | more hd rest ih =>
    intro fuel listed ts S d ts' S' d' g a w e h ht hdf hA hq
    refine ⟨fun hp => ?_, fun _ i hi => by simp [altKs] at hi⟩
    simp only [planOk, Bool.and_eq_true, decide_eq_true_eq] at hp
    obtain ⟨⟨⟨⟨⟨p1, p2⟩, p3⟩, p4⟩, p5⟩, p6⟩ := hp
    unfold evTP at e
    split at e
    case h_2 => cases e
    rename_i ts1 hh
    obtain ⟨m, rfl⟩ : ∃ m, fuel = hd.length + m := ⟨fuel - hd.length, by omega⟩
    refine wpAnyT_more hd (by rw [p1, p2, p3, p4]; rfl) hQ trivial hA fun R hR => ?_
    refine evHead_ok (w0 := w0) (g := g) hz (So := none) (fun _ h => nomatch h) hd hh ht hdf fun a' h1 h2 => hR a' ?_
    rw [Nat.add_sub_cancel_left] at p6
    exact (ih m _ e h h1 h2 (fun hl => hA (headL_keep hd listed hl)) hq).1 p6
  | stop =>
    intro fuel listed ts S d ts' S' d' g a w e h ht hd hA hq
    cases e
  | alt k t r iht ihr =>
    intro fuel listed ts S d ts' S' d' g a w e h ht hdf hA hq
    unfold evTP at e
    have hX : (match ops[k]? with
      | some o =>
        if Region.wanted o (yielded ops ts.toArray) then
          match (if (listed.setIfInBounds k true).getD n true then evOp P N call (base + k) d ts S o else evOpA P N (base + k) d ts S o) with
          | some (v, S', d') => evTP P N call ops n base t (listed.setIfInBounds k true) (putS ts o.dst v) S' d'
          | none => none
        else evTP P N call ops n base t (listed.setIfInBounds k true) (putS ts o.dst undef) S d
      | none => none) = some (ts', S', d') ∧ (r = .stop ∨ evTP P N call ops n base r listed ts S d = some (ts', S', d')) := by
      cases r with
      | stop => exact ⟨e, .inl rfl⟩
      | _ => obtain ⟨x, y⟩ := both_some e; exact ⟨x, .inr y⟩
    obtain ⟨hX, hr⟩ := hX
    have stepK : planOk ops n t true (fuel - 1) (listed.setIfInBounds k true) = true → wpOp P ops Q k (fun a' w' => (True ∧ ((listed.setIfInBounds k true).getD n true = false → Kn wS w')) ∧ wpAnyT P ops Q n (fun w' => Kn wS w') (fun _ => True) (fuel - 1) (listed.setIfInBounds k true) a' w') a w := by
      intro p3
      split at hX
      case h_2 => cases hX
      rename_i o ho
      unfold wpOp
      simp only [ho]
      rw [yielded_eq ht]
      split at hX
      · rename_i hw
        rw [if_pos hw]
        refine .inl ?_
        split at hX
        case h_2 => cases hX
        rename_i v S1 d1 hev
        split at hev
        · rename_i hl
          refine evOp_ok hz hc h ht hev fun g1 v' w1 hg hv hs => ⟨⟨trivial, fun hl2 => (by rw [hl] at hl2; cases hl2)⟩, ?_⟩
          exact (iht _ _ hX hs (putS_ok (ht.mono hg) hv _) (by rw [put_defers]; exact hdf) (fun hl2 => (by rw [hl] at hl2; cases hl2)) fun g' a' w' h1 h2 h3 h4 => hq g' a' w' (Gm.le_trans hg h1) h2 h3 h4).1 p3
        · rename_i hl
          have hl : (listed.setIfInBounds k true).getD n true = false := by simpa using hl
          have hA1 := hA (getD_set_keep hl)
          refine evOpA_ok hz h ht hev fun g1 v' w1 hg hv hs hk => ⟨⟨trivial, fun _ => hA1.then hk⟩, ?_⟩
          exact (iht _ _ hX hs (putS_ok (ht.mono hg) hv _) (by rw [put_defers]; exact hdf) (fun _ => hA1.then hk) fun g' a' w' h1 h2 h3 h4 => hq g' a' w' (Gm.le_trans hg h1) h2 h3 h4).1 p3
      · rename_i hw
        rw [if_neg hw]
        refine ⟨⟨trivial, fun hl => hA (getD_set_keep hl)⟩, ?_⟩
        exact (iht _ _ hX h (putS_ok ht vr_undef _) (by rw [put_defers]; exact hdf) (fun hl => hA (getD_set_keep hl)) hq).1 p3
    have others : planOk ops n r false fuel listed = true → ∀ i ∈ altKs r, wpOp P ops Q i (fun a' w' => (True ∧ ((listed.setIfInBounds i true).getD n true = false → Kn wS w')) ∧ wpAnyT P ops Q n (fun w' => Kn wS w') (fun _ => True) (fuel - 1) (listed.setIfInBounds i true) a' w') a w := by
      intro p4
      rcases hr with rfl | hr
      · intro i hi; simp [altKs] at hi
      · exact (ihr fuel listed hr h ht hdf hA hq).2 p4
    constructor
    · intro hp
      simp only [planOk, Bool.and_eq_true, decide_eq_true_eq, Bool.not_true, Bool.false_or, beq_iff_eq] at hp
      obtain ⟨⟨⟨p1, p2⟩, p3⟩, p4⟩ := hp
      obtain ⟨m, rfl⟩ : ∃ m, fuel = m + 1 := ⟨fuel - 1, by omega⟩
      rw [Nat.add_sub_cancel] at p3 stepK others
      refine ⟨fun h0 => (by rw [p1] at h0; cases h0), fun i hi => ?_⟩
      rw [p1] at hi
      rcases List.mem_cons.1 hi with rfl | hi
      · exact stepK p3
      · exact others p4 i hi
    · intro hp i hi
      simp only [planOk, Bool.and_eq_true, decide_eq_true_eq, Bool.not_false, Bool.true_or, true_and] at hp
      obtain ⟨⟨p2, p3⟩, p4⟩ := hp
      simp only [altKs] at hi
      rcases List.mem_cons.1 hi with rfl | hi
      · exact stepK p3
      · exact others p4 i hi

/-- A region that draws its order. -/
structure Plan where
  n : Nat
  hd : List (Nat × Bool)
  tail : TP

def planFits (ops : Array Oper) (p : Plan) : Bool :=
  Region.noSelect ops && downB ops (Array.replicate ops.size false) && headB ops p.n p.hd (Array.replicate ops.size false) && decide (p.hd.length ≤ ops.size) && planOk ops p.n p.tail true (ops.size - p.hd.length) (headL p.hd (Array.replicate ops.size false))

def evDraw (P : Program) (N : Nat) (call : CallF) (ops : Array Oper) (p : Plan) (ts : List Value) (S : SH) (d : Nat) : Option (List Value × SH × Nat) :=
  match evHead P N ops (some S) p.hd ts with
  | some ts' => evTP P N call ops p.n d p.tail (headL p.hd (Array.replicate ops.size false)) ts' S (d + ops.size)
  | none => none

theorem evDraw_ok {N : Nat} (hz : ZC P N) (hm : P.follows .mixedOrders = true) {call : CallF} (hc : CallOk P call) {id : Nat} {l : List Oper} {p : Plan} (hp : planFits l.toArray p = true) (hQ : ∀ c a d v w, Q (.panic c) (Act.put a d v) w → Q (.panic c) a w) {d : Nat} {ts' : List Value} {S' : SH} {d' : Nat}
    (e : evDraw P N call l.toArray p ts S d = some (ts', S', d')) (h : Sim w0 g S w) (ht : LR g ts a.tmps.toList) (hd : a.defers = []) (hq : ∀ g' a' w', g.le g' → Sim w0 g' S' w' → LR g' ts' a'.tmps.toList → a'.defers = [] → Q .normal a' w') :
    (Code.region id l.toArray true).wp P Q a w := by
  unfold planFits at hp
  simp only [Bool.and_eq_true, decide_eq_true_eq] at hp
  obtain ⟨⟨⟨⟨p1, p2⟩, p3⟩, p4⟩, p5⟩ := hp
  unfold evDraw at e
  split at e
  case h_2 => cases e
  rename_i ts1 hh
  refine wp_region_two p.n (fun w' => Kn w.drew w') (fun _ => True) p.hd (l.toArray.size - p.hd.length) hm (by rw [p1, p2, p3]; simp; simp at p4; omega) hQ (Kp.refl _ _) trivial fun R hR => ?_
  refine evHead_ok (w0 := w0) (g := g) hz (So := some S) (fun S1 h1 => by cases h1; exact ⟨fun w' hw' => h.drew.kept hw', w.drew, Kp.refl _ _⟩) p.hd hh ht hd fun a' h1 h2 => hR a' ?_
  exact (evTP_ok hz hc hQ p.tail _ _ e h.drew h1 h2 (fun _ => Kp.refl _ _) hq).1 p5
end
end Go.Proofs.Ytckejldjoajpgaa
