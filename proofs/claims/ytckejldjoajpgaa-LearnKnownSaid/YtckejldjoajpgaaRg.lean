/- A region that draws its order: operations that only read are taken first, in an order that is given; then the others come up. Two classes of worlds: A holds until number n has come up, B always. -/
import Derived.OrdersHeld
import Derived.Tactics
import Derived.Tactics2
import Derived.KernelRfl
namespace Go.Proofs.Ytckejldjoajpgaa
open Go

section
variable {P : Program} {ops : Array Oper} {Q : Exit → Act → World → Prop} {A B : World → Prop} {n : Nat}

/-- As 'wpAny'; behind every operation the world is of class B, and of class A while number n has not come up. -/
def wpAnyT (P : Program) (ops : Array Oper) (Q : Exit → Act → World → Prop) (n : Nat) (A B : World → Prop) : Nat → Array Bool → Act → World → Prop
  | 0, listed, a, w => Region.ready .any ops listed = [] ∧ Q .normal a w
  | fuel + 1, listed, a, w =>
    (Region.ready .any ops listed = [] → Q .normal a w) ∧
    ∀ i ∈ Region.ready .any ops listed, wpOp P ops Q i (fun a' w' => (B w' ∧ ((listed.setIfInBounds i true).getD n true = false → A w')) ∧ wpAnyT P ops Q n A B fuel (listed.setIfInBounds i true) a' w') a w

theorem wpAny_of_two : ∀ (fuel : Nat) (listed : Array Bool) (a : Act) (w : World), wpAnyT P ops Q n A B fuel listed a w → wpAny P .any ops Q fuel listed a w
  | 0, _, _, _, h => h
  | fuel + 1, _, _, _, h => ⟨h.1, fun i hi => wpOp_mono (fun a' w' h' => wpAny_of_two fuel _ a' w' h'.2) (h.2 i hi)⟩

theorem getD_set_keep {listed : Array Bool} {i n : Nat} (h : (listed.setIfInBounds i true).getD n true = false) : listed.getD n true = false := by
  by_cases hij : i = n
  · subst hij
    rcases Nat.lt_or_ge i listed.size with h' | h'
    · simp [h'] at h
    · have : (listed.setIfInBounds i true) = listed := by simp [Array.setIfInBounds, Nat.not_lt.2 h']
      rwa [this] at h
  · rw [getD_set_ne true hij] at h; exact h

/-- What has come up waits for nothing. -/
def Down (ops : Array Oper) (listed : Array Bool) : Prop := ∀ k o, ops[k]? = some o → listed.getD k true = true → ∀ e ∈ o.after, Region.binds .any e = true → listed.getD e.on false = true

theorem Down.set {ops : Array Oper} {listed : Array Bool} {i : Nat} (h : Down ops listed) (hi : i ∈ Region.ready .any ops listed) : Down ops (listed.setIfInBounds i true) := fun k o ho hk e he hb => by
  by_cases hki : i = k
  · subst hki
    obtain ⟨_, o', ho', hall⟩ := mem_ready.1 hi
    rw [ho] at ho'
    cases ho'
    exact getD_set_true (hall e he hb)
  · rw [getD_set_ne true hki] at hk
    exact getD_set_true (h k o ho hk e he hb)

/-- Number k waits for number i, by way of others. -/
inductive Waits (ops : Array Oper) (i : Nat) : Nat → Prop where
  | one {k : Nat} {o : Oper} {e : Edge} : ops[k]? = some o → e ∈ o.after → Region.binds .any e = true → e.on = i → Waits ops i k
  | via {k : Nat} {o : Oper} {e : Edge} : ops[k]? = some o → e ∈ o.after → Region.binds .any e = true → Waits ops i e.on → Waits ops i k

theorem getD_in_size {listed : Array Bool} {k : Nat} (hs : k < listed.size) (d : Bool) : listed.getD k d = listed.getD k true := by
  simp [hs]

theorem Waits.listed {ops : Array Oper} {listed : Array Bool} {i k : Nat} (h : Waits ops i k) (hd : Down ops listed) (hk : listed.getD k true = true) (hs : k < listed.size) : listed.getD i false = true := by
  induction h with
  | one ho he hb heq => rw [← heq]; exact hd _ _ ho hk _ he hb
  | @via k o e ho he hb hw ih =>
    have h1 := hd _ _ ho hk _ he hb
    have hlt : e.on < listed.size := by
      rcases Nat.lt_or_ge e.on listed.size with h | h
      · exact h
      · simp [Array.getElem?_eq_none h] at h1
    exact ih (by rw [← getD_in_size hlt false]; exact h1) hlt

def waitsB (ops : Array Oper) (i : Nat) : Nat → Nat → Bool
  | 0, _ => false
  | f + 1, k => match ops[k]? with
    | some o => (o.after.any fun e => Region.binds .any e && e.on == i) || o.after.any fun e => Region.binds .any e && waitsB ops i f e.on
    | none => false

theorem waitsB_spec {ops : Array Oper} {i : Nat} : ∀ {f k : Nat}, waitsB ops i f k = true → Waits ops i k
  | 0, _, h => by simp [waitsB] at h
  | f + 1, k, h => by
    unfold waitsB at h
    split at h
    · rename_i o ho
      rw [Bool.or_eq_true] at h
      rcases h with h | h
      · obtain ⟨e, he, hb⟩ := Array.any_eq_true'.1 h
        simp only [Bool.and_eq_true, beq_iff_eq] at hb
        exact .one ho he hb.1 hb.2
      · obtain ⟨e, he, hb⟩ := Array.any_eq_true'.1 h
        simp only [Bool.and_eq_true] at hb
        exact .via ho he hb.1 (waitsB_spec hb.2)
    · cases h

def downB (ops : Array Oper) (listed : Array Bool) : Bool :=
  (List.range ops.size).all fun k => !listed.getD k true || match ops[k]? with
    | some o => o.after.all fun e => !Region.binds .any e || listed.getD e.on false
    | none => true

theorem downB_spec {ops : Array Oper} {listed : Array Bool} (h : downB ops listed = true) : Down ops listed := fun k o ho hk e he hb => by
  simp only [downB, List.all_eq_true, List.mem_range] at h
  have := h k (Array.getElem?_eq_some_iff.1 ho).1
  rw [hk, ho] at this
  simp only [Bool.not_true, Bool.false_or] at this
  have := Array.all_eq_true_iff_forall_mem.1 this e he
  rw [hb] at this
  simpa using this

/-- Number i may be taken first. p: number n waits for it (then class A is enough). -/
theorem wpAnyT_first {i : Nat} {oi : Oper} {v : Value} {p : Bool} (hi : ops[i]? = some oi) (hin : i ≠ n)
    (hp : p = true → Waits ops i n)
    (hsel : ∀ (j : Nat) (o : Oper) cs b, ops[j]? = some o → o.op ≠ .select cs b)
    (hQ : ∀ c a w, Q (.panic c) (a.put oi.dst v) w → Q (.panic c) a w) :
    ∀ (fuel : Nat) (listed : Array Bool) (a : Act) (w : World), Down ops listed → listed.size = ops.size →
      (∀ j oj, ops[j]? = some oj → j ≠ i → listed.getD j true = false → (∀ e ∈ oj.after, Region.binds .any e = true → e.on ≠ i) → oi.apart ops oj = true) →
      i ∈ Region.ready .any ops listed → (p = true → listed.getD n true = false) → YieldsIf P ops (fun w => B w ∧ (p = true → A w)) oi v a → B w → (listed.getD n true = false → A w) →
      wpAnyT P ops Q n A B fuel (listed.setIfInBounds i true) (a.put oi.dst v) w → wpAnyT P ops Q n A B (fuel + 1) listed a w := by
  intro fuel
  induction fuel with
  | zero =>
    intro listed a w _ _ _ hr hpn hy hB hA H
    refine ⟨fun h => (by rw [h] at hr; cases hr), fun j hj => ?_⟩
    by_cases hji : j = i
    · subst hji; exact hy.wpOp hi ⟨hB, fun h => hA (hpn h)⟩ ⟨⟨hB, fun h => hA (getD_set_keep h)⟩, H⟩
    · have := ready_mono hj hji
      rw [H.1] at this
      cases this
  | succ fuel ih =>
    intro listed a w hdn hsz hfree hr hpn hy hB hA H
    refine ⟨fun h => (by rw [h] at hr; cases hr), fun j hj => ?_⟩
    by_cases hji : j = i
    · subst hji; exact hy.wpOp hi ⟨hB, fun h => hA (hpn h)⟩ ⟨⟨hB, fun h => hA (getD_set_keep h)⟩, H⟩
    · have h1 := H.2 j (ready_mono hj hji)
      obtain ⟨hjun, oj, hoj, hall⟩ := mem_ready.1 hj
      have hnot : ∀ e ∈ oj.after, Region.binds .any e = true → e.on ≠ i := fun e he hb heq => by
        have h1 := hall e he hb
        have h0 := (mem_ready.1 hr).1
        rw [heq] at h1
        rcases Nat.lt_or_ge i listed.size with h' | h'
        · simp [h'] at h0 h1; rw [h0] at h1; cases h1
        · simp [Array.getElem?_eq_none h'] at h1
      have h2 := wpOp_putIf hoj (hfree j oj hoj hji hjun hnot) (fun cs b => hsel i oi cs b hi) (fun cs b => hsel j oj cs b hoj) hQ hy h1
      have hfree' : ∀ k ok, ops[k]? = some ok → k ≠ i → (listed.setIfInBounds j true).getD k true = false →
          (∀ e ∈ ok.after, Region.binds .any e = true → e.on ≠ i) → oi.apart ops ok = true := fun k ok hk hki hun hno => by
        refine hfree k ok hk hki ?_ hno
        by_cases hjk : j = k
        · subst hjk; exact hjun
        · rw [getD_set_ne true hjk] at hun; exact hun
      have hpn' : p = true → (listed.setIfInBounds j true).getD n true = false := fun h => by
        by_cases hjn : j = n
        · subst hjn
          have hjl : j < listed.size := by rw [hsz]; exact (Array.getElem?_eq_some_iff.1 hoj).1
          have h1 := (hp h).listed (hdn.set hj) (by simp [hjl]) (by simpa using hjl)
          rw [getD_set_ne false hji] at h1
          have h0 := (mem_ready.1 hr).1
          have hil : i < listed.size := by rw [hsz]; exact (Array.getElem?_eq_some_iff.1 hi).1
          rw [getD_in_size hil false, h0] at h1
          cases h1
        · rw [getD_set_ne true hjn]; exact hpn h
      refine wpOp_mono (fun a' w' h3 => ?_) h2
      obtain ⟨hy', ⟨hB', hA'⟩, hT⟩ := h3
      have hA'' : (listed.setIfInBounds j true).getD n true = false → A w' := fun h => hA' (by
        rw [Array.setIfInBounds_comm _ _ (Ne.symm hji), getD_set_ne true hin]; exact h)
      refine ⟨⟨hB', hA''⟩, ih (listed.setIfInBounds j true) a' w' (hdn.set hj) (by simp [hsz]) hfree' (ready_mono hr (Ne.symm hji)) hpn' hy' hB' hA'' ?_⟩
      rw [Array.setIfInBounds_comm _ _ hji]
      exact hT

/-- The Bool of one that is taken first. -/
def takeB (ops : Array Oper) (n : Nat) (listed : Array Bool) (i : Nat) (p : Bool) : Bool :=
  (i != n) && (Region.ready .any ops listed).contains i && Region.free .any ops listed i &&
  (!p || (listed.getD n true == false && waitsB ops i 8 n))

/-- All that are taken first, in this order. -/
def headB (ops : Array Oper) (n : Nat) : List (Nat × Bool) → Array Bool → Bool
  | [], _ => true
  | (i, p) :: r, listed => takeB ops n listed i p && headB ops n r (listed.setIfInBounds i true)

def headL : List (Nat × Bool) → Array Bool → Array Bool
  | [], listed => listed
  | (i, _) :: r, listed => headL r (listed.setIfInBounds i true)

/-- The walk over those that are taken first. -/
def wpHead (P : Program) (ops : Array Oper) (A B : World → Prop) (R : Act → Prop) : List (Nat × Bool) → Act → Prop
  | [], a => R a
  | (i, p) :: r, a => ∃ o v, ops[i]? = some o ∧ YieldsIf P ops (fun w => B w ∧ (p = true → A w)) o v a ∧ wpHead P ops A B R r (a.put o.dst v)

theorem wpAnyT_head (hs : Region.noSelect ops = true) (hQ : ∀ c a d v w, Q (.panic c) (Act.put a d v) w → Q (.panic c) a w) : ∀ (hd : List (Nat × Bool)) (fuel : Nat) (listed : Array Bool) (a : Act) (w : World),
    Down ops listed → listed.size = ops.size → headB ops n hd listed = true → B w → (listed.getD n true = false → A w) →
    wpHead P ops A B (fun a' => wpAnyT P ops Q n A B fuel (headL hd listed) a' w) hd a → wpAnyT P ops Q n A B (hd.length + fuel) listed a w
  | [], fuel, listed, a, w, _, _, _, _, _, h => by simpa [headL, wpHead] using h
  | (i, p) :: r, fuel, listed, a, w, hdn, hsz, hB, hBw, hAw, h => by
    obtain ⟨o, v, ho, hy, hR⟩ := h
    simp only [headB, takeB, Bool.and_eq_true] at hB
    obtain ⟨⟨⟨⟨hne, hr⟩, hf⟩, hp⟩, hB'⟩ := hB
    have hin : i ≠ n := by simpa using hne
    have ih := wpAnyT_head hs hQ r fuel (listed.setIfInBounds i true) (a.put o.dst v) w (hdn.set (by simpa using hr)) (by simp [hsz]) hB' hBw (fun h => hAw (getD_set_keep h)) hR
    rw [show ((i, p) :: r).length + fuel = (r.length + fuel) + 1 by simp; omega]
    refine wpAnyT_first ho hin (p := p) (fun hpt => ?_) (Region.noSelect_spec hs) (fun c a w => hQ c a o.dst v w) (r.length + fuel) listed a w hdn hsz (Region.free_spec ho hf) (by simpa using hr) (fun hpt => ?_) hy hBw hAw ih
    · subst hpt
      simp only [Bool.not_true, Bool.false_or, Bool.and_eq_true] at hp
      exact waitsB_spec hp.2
    · subst hpt
      simp only [Bool.not_true, Bool.false_or, Bool.and_eq_true] at hp
      simpa using hp.1

/-- THE BEGINNING. -/
theorem wp_region_two {id : Nat} {a : Act} {w : World} {l : List Oper} (n : Nat) (A B : World → Prop) (hd : List (Nat × Bool)) (fuel : Nat) (hm : P.follows .mixedOrders = true)
    (hb : (Region.noSelect l.toArray && downB l.toArray (Array.replicate l.toArray.size false) && headB l.toArray n hd (Array.replicate l.toArray.size false) && (hd.length + fuel == l.toArray.size)) = true)
    (hQ : ∀ c a d v w, Q (.panic c) (Act.put a d v) w → Q (.panic c) a w) (hA : A w.drew) (hB : B w.drew)
    (h : ∀ R : Act → Prop, (∀ a', wpAnyT P l.toArray Q n A B fuel (headL hd (Array.replicate l.toArray.size false)) a' w.drew → R a') → wpHead P l.toArray A B R hd a) : (Code.region id l.toArray true).wp P Q a w := by
  simp only [Bool.and_eq_true, beq_iff_eq] at hb
  obtain ⟨⟨⟨hs, hd0⟩, hh⟩, hf⟩ := hb
  refine wp_region_any hm (wpAny_of_two (n := n) (A := A) (B := B) _ _ _ _ ?_)
  have := wpAnyT_head hs hQ hd fuel _ a _ (downB_spec hd0) (by simp) hh hB (fun _ => hA) (h _ fun _ h => h)
  rwa [hf] at this

/-- In the midst: others are taken first. -/
theorem wpAnyT_more {fuel : Nat} {listed : Array Bool} {a : Act} {w : World} (hd : List (Nat × Bool)) (hb : (Region.noSelect ops && downB ops listed && headB ops n hd listed && (listed.size == ops.size)) = true)
    (hQ : ∀ c a d v w, Q (.panic c) (Act.put a d v) w → Q (.panic c) a w) (hB : B w) (hA : listed.getD n true = false → A w)
    (h : ∀ R : Act → Prop, (∀ a', wpAnyT P ops Q n A B fuel (headL hd listed) a' w → R a') → wpHead P ops A B R hd a) : wpAnyT P ops Q n A B (hd.length + fuel) listed a w := by
  simp only [Bool.and_eq_true, beq_iff_eq] at hb
  obtain ⟨⟨⟨hs, hd0⟩, hh⟩, hf⟩ := hb
  exact wpAnyT_head hs hQ hd fuel _ a _ (downB_spec hd0) hf hh hB hA (h _ fun _ h => h)

/-- One that is taken first, without a guard; in whatever world of the class it yields its value. -/
theorem wpHead_one {R : Act → Prop} {r : List (Nat × Bool)} {i : Nat} {p : Bool} {l : List Value} {ds : List Deferred} {op : Op} {ty : TypeId} {pos : String} {af : Array Edge} {d : Nat} {v : Value} (ho : ops[i]? = some ⟨some d, op, ty, pos, af, none⟩)
    (hy : ∀ w, B w → (p = true → A w) → (execOp (Act.mk l.toArray ds).eval ⟨some d, op, ty, pos, af, none⟩).run P w = .ok (.value v) w) (h : wpHead P ops A B R r ⟨(l.set d v).toArray, ds⟩) : wpHead P ops A B R ((i, p) :: r) ⟨l.toArray, ds⟩ :=
  ⟨_, v, ho, .inl ⟨by simp [Region.wanted], fun w hw => hy w hw.1 hw.2⟩, by simpa [Act.put] using h⟩

/-- One that is passed over by its guard. -/
theorem wpHead_skip {R : Act → Prop} {r : List (Nat × Bool)} {a : Act} {i : Nat} {p : Bool} {o : Oper} (ho : ops[i]? = some o) (hg : Region.wanted o (yielded ops a.tmps) = false)
    (h : wpHead P ops A B R r (a.put o.dst undef)) : wpHead P ops A B R ((i, p) :: r) a :=
  ⟨o, undef, ho, .inr ⟨hg, rfl⟩, h⟩

/-- One that its guard lets by. -/
theorem wpHead_on {R : Act → Prop} {r : List (Nat × Bool)} {a : Act} {i : Nat} {p : Bool} {o : Oper} {v : Value} (ho : ops[i]? = some o) (hg : Region.wanted o (yielded ops a.tmps) = true)
    (hy : ∀ w, B w → (p = true → A w) → (execOp a.eval o).run P w = .ok (.value v) w) (h : wpHead P ops A B R r (a.put o.dst v)) : wpHead P ops A B R ((i, p) :: r) a :=
  ⟨o, v, ho, .inl ⟨hg, fun w hw => hy w hw.1 hw.2⟩, h⟩

theorem wpHead_nil {R : Act → Prop} {a : Act} (h : R a) : wpHead P ops A B R [] a := h

/-- The next one, where only one may come up. -/
theorem wpAnyT_one {k fuel : Nat} {listed : Array Bool} {a : Act} {w : World} {o : Oper} (hr : Region.ready .any ops listed = [k]) (ho : ops[k]? = some o) (hg : o.guard = none)
    (h : ∀ K : Act → World → Prop, (∀ a' w', (B w' ∧ ((listed.setIfInBounds k true).getD n true = false → A w')) ∧ wpAnyT P ops Q n A B fuel (listed.setIfInBounds k true) a' w' → K a' w') → o.wp P a w K Q) :
    wpAnyT P ops Q n A B (fuel + 1) listed a w := by
  refine ⟨fun h0 => (by rw [hr] at h0; cases h0), fun i hi => ?_⟩
  rw [hr] at hi
  obtain rfl : i = k := by simpa using hi
  unfold Go.wpOp
  simp only [ho, Region.wanted, hg, if_true]
  exact .inl (h _ fun _ _ h => h)

theorem wpAnyT_two {k j fuel : Nat} {listed : Array Bool} {a : Act} {w : World} {o o' : Oper} (hr : Region.ready .any ops listed = [k, j]) (ho : ops[k]? = some o) (hg : o.guard = none) (ho' : ops[j]? = some o') (hg' : o'.guard = none)
    (h : ∀ K : Act → World → Prop, (∀ a' w', (B w' ∧ ((listed.setIfInBounds k true).getD n true = false → A w')) ∧ wpAnyT P ops Q n A B fuel (listed.setIfInBounds k true) a' w' → K a' w') → o.wp P a w K Q)
    (h' : ∀ K : Act → World → Prop, (∀ a' w', (B w' ∧ ((listed.setIfInBounds j true).getD n true = false → A w')) ∧ wpAnyT P ops Q n A B fuel (listed.setIfInBounds j true) a' w' → K a' w') → o'.wp P a w K Q) :
    wpAnyT P ops Q n A B (fuel + 1) listed a w := by
  refine ⟨fun h0 => (by rw [hr] at h0; cases h0), fun i hi => ?_⟩
  rw [hr] at hi
  simp only [List.mem_cons, List.not_mem_nil, or_false] at hi
  rcases hi with rfl | rfl
  · unfold Go.wpOp
    simp only [ho, Region.wanted, hg, if_true]
    exact .inl (h _ fun _ _ h => h)
  · unfold Go.wpOp
    simp only [ho', Region.wanted, hg', if_true]
    exact .inl (h' _ fun _ _ h => h)

theorem wpAnyT_zero {listed : Array Bool} {a : Act} {w : World} (hr : Region.ready .any ops listed = []) (h : Q .normal a w) : wpAnyT P ops Q n A B 0 listed a w := ⟨hr, h⟩

end
end Go.Proofs.Ytckejldjoajpgaa
