/- slices.Sorted(maps.Keys(m)) on the shadow: out of its contract. Nothing of the program. -/
import Derived.Test.YtckejldjoajpgaaE17
import Derived.Sort.KeysCollected
import Derived.Sort.OwnSorted
import Derived.StringKeys
import Derived.WideShapes
namespace Go.Proofs.Ytckejldjoajpgaa
open Go Go.Maps Go.Sort
set_option linter.all false

def keyBytes : List MapEntry → Option (List (List UInt8))
  | [] => some []
  | e :: r => match e.key, keyBytes r with
    | .string s, some l => some (s.data.toList :: l)
    | _, _ => none

/-- Less, byte by byte. -/
def blt : List UInt8 → List UInt8 → Bool
  | [], [] => false
  | [], _ :: _ => true
  | _ :: _, [] => false
  | a :: l, b :: m => Nat.blt a.toNat b.toNat || (Nat.beq a.toNat b.toNat && blt l m)

def insS (x : List UInt8) : List (List UInt8) → List (List UInt8)
  | [] => [x]
  | y :: r => if blt x y then x :: y :: r else y :: insS x r
def sortS : List (List UInt8) → List (List UInt8)
  | [] => []
  | x :: r => insS x (sortS r)
def ascS : List (List UInt8) → Bool
  | x :: y :: r => blt x y && ascS (y :: r)
  | _ => true
/-- Stamps rise. -/
def stampsB (clock : Nat) : List MapEntry → Bool
  | x :: y :: r => Nat.blt x.born y.born && stampsB clock (y :: r)
  | [x] => Nat.blt x.born clock
  | [] => true

theorem blt_iff : ∀ (a b : List UInt8), blt a b = true ↔ a < b
  | [], [] => by simp [blt]
  | [], _ :: _ => by simp [blt]
  | _ :: _, [] => by simp [blt]
  | a :: l, b :: m => by
    simp only [blt, Bool.or_eq_true, Bool.and_eq_true, List.cons_lt_cons_iff, blt_iff l m]
    rw [Nat.blt_eq, Nat.beq_eq, UInt8.lt_iff_toNat_lt, ← UInt8.toNat_inj]

theorem blt_trans : ∀ {a b c : List UInt8}, blt a b = true → blt b c = true → blt a c = true
  | [], [], _, h, _ => by simp [blt] at h
  | [], _ :: _, [], _, h => by simp [blt] at h
  | [], _ :: _, _ :: _, _, _ => rfl
  | _ :: _, [], _, h, _ => by simp [blt] at h
  | _ :: _, _ :: _, [], _, h => by simp [blt] at h
  | a :: l, b :: m, c :: n, h, k => by
    simp only [blt, Bool.or_eq_true, Bool.and_eq_true, Nat.blt_eq, Nat.beq_eq] at h k ⊢
    rcases h with h | ⟨h, h2⟩ <;> rcases k with k | ⟨k, k2⟩
    · exact .inl (by omega)
    · exact .inl (by omega)
    · exact .inl (by omega)
    · exact .inr ⟨by omega, blt_trans h2 k2⟩

theorem insS_perm (x : List UInt8) : ∀ l, (insS x l).Perm (x :: l)
  | [] => by simp [insS]
  | y :: r => by
    unfold insS
    split
    · exact List.Perm.refl _
    · exact ((insS_perm x r).cons y).trans (List.Perm.swap x y r)
theorem sortS_perm : ∀ l, (sortS l).Perm l
  | [] => by simp [sortS]
  | x :: r => (insS_perm x _).trans ((sortS_perm r).cons x)

theorem ascS_pairwise : ∀ {l : List (List UInt8)}, ascS l = true → l.Pairwise (fun a b => blt a b = true)
  | [], _ => .nil
  | [x], _ => by simp
  | x :: y :: r, h => by
    simp only [ascS, Bool.and_eq_true] at h
    have ih := ascS_pairwise h.2
    refine .cons (fun z hz => ?_) ih
    rcases List.mem_cons.1 hz with rfl | hz
    · exact h.1
    · exact blt_trans h.1 ((List.pairwise_cons.1 ih).1 z hz)

theorem blt_irr (a : List UInt8) : blt a a = false := by
  induction a with
  | nil => rfl
  | cons x r ih =>
    have h1 : Nat.blt x.toNat x.toNat = false := by
      rw [Bool.eq_false_iff]; intro h; rw [Nat.blt_eq] at h; omega
    simp [blt, ih, h1]

theorem stampsB_pairwise {clock : Nat} : ∀ {l : List MapEntry}, stampsB clock l = true → l.Pairwise (fun a b => a.born < b.born) ∧ ∀ x ∈ l, x.born < clock
  | [], _ => ⟨.nil, fun x hx => by cases hx⟩
  | [x], h => ⟨by simp, fun z hz => by rw [List.mem_singleton.1 hz]; simpa [stampsB] using h⟩
  | x :: y :: r, h => by
    simp only [stampsB, Bool.and_eq_true, Nat.blt_eq] at h
    have ih := stampsB_pairwise h.2
    refine ⟨.cons (fun z hz => ?_) ih.1, fun z hz => ?_⟩
    · rcases List.mem_cons.1 hz with rfl | hz
      · exact h.1
      · have := (List.pairwise_cons.1 ih.1).1 z hz
        omega
    · rcases List.mem_cons.1 hz with rfl | hz
      · have := ih.2 y (List.mem_cons_self ..)
        omega
      · exact ih.2 z hz

def shortKeys : List (List UInt8) → Bool
  | [] => true
  | x :: r => Nat.ble x.length 1000000 && shortKeys r

theorem shortKeys_le : ∀ {l : List (List UInt8)}, shortKeys l = true → ∀ x ∈ l, x.length ≤ 1000000
  | x :: r, h, y, hy => by
    simp only [shortKeys, Bool.and_eq_true, Nat.ble_eq] at h
    rcases List.mem_cons.1 hy with rfl | hy
    · exact h.1
    · exact shortKeys_le h.2 y hy

def seqArg (its : List FuncId) : List Value → Option Nat
  | [.func (.func k) f c] => match f.toList, c.toList with
    | [], [.pointer (some ⟨r, 0, none⟩)] => if its.contains k then some r else none
    | _, _ => none
  | _ => none

def mapAt (S : SH) (r : Nat) : Option (Nat × List MapEntry × Nat) := match S.get r with
  | some (.cells [.map (some m)] _) => match S.get m with
    | some (.map es clock) => some (m, es, clock)
    | _ => none
  | _ => none

def sortedH (its : List FuncId) (kt : TypeId) (args : List Value) (S : SH) (d : Nat) : Option (Value × SH × Nat) :=
  match seqArg its args with
  | some r => match mapAt S r with
    | some (m, es, clock) => match keyBytes es, S.get d with
      | some ks, none =>
        let ss := sortS ks
        if stampsB clock es && ascS ss && shortKeys ks && Nat.ble es.length 1000000 then
          (match ss with
          | [] => some (.slice none 0 0, S, d)
          | _ => some (.slice (some ⟨d, 0, none⟩) es.length UNK, S.set d (.row (ss.map fun l => .string ⟨l.toArray⟩) kt 1), d + 1))
        else none
      | _, _ => none
    | none => none
  | none => none

theorem keyBytes_some {g : Gm} : ∀ {es es' : List MapEntry} {ks : List (List UInt8)}, L2 (ER g) es es' → keyBytes es = some ks → (∀ x ∈ es', ∃ s : ByteArray, x.key = .string s ∧ s.data.toList ∈ ks) ∧ es'.map (·.key) = ks.map (fun l => Value.string ⟨l.toArray⟩) := by
  intro es es' ks h
  induction h generalizing ks with
  | nil => intro e; cases e; exact ⟨fun x hx => (by cases hx), rfl⟩
  | @cons a b l l' hx _ ih =>
    intro e
    simp only [keyBytes] at e
    split at e
    · rename_i s ks0 hs hks
      cases e
      obtain ⟨i1, i2⟩ := ih hks
      refine ⟨fun z hz => ?_, ?_⟩
      · rcases List.mem_cons.1 hz with rfl | hz
        · exact ⟨s, by rw [← hx.1, hs], List.mem_cons_self ..⟩
        · obtain ⟨s', e1, e2⟩ := i1 z hz
          exact ⟨s', e1, List.mem_cons_of_mem _ e2⟩
      · simp only [List.map_cons, i2, ← hx.1, hs]
    · cases e

theorem L2.borns {g : Gm} {es es' : List MapEntry} (h : L2 (ER g) es es') : es.map (·.born) = es'.map (·.born) := by
  induction h with
  | nil => rfl
  | cons hx _ ih => simp only [List.map_cons, ih, hx.2.1]

abbrev RU : Value → Option (DataW Unit × List MemPlace) := fun _ => some (.nil, [])

theorem maxLen_eq : maxLen = 9223372036854775807 := rfl

/-- The contract that the hook leans on. -/
def SortedSays (P : Program) (fS kI : FuncId) (kt : TypeId) : Prop :=
  ∀ (W : World) (Bm b nn : Nat) (D0 : DataW Unit), Bm < W.heap.size → W.cell? ⟨Bm, 0, none⟩ = some (.map (some b)) → W.ownsMap P kt RU b nn D0 → Maps.size D0 ≤ maxLen → Maps.size D0 * 16 ≤ 140737488355328 →
    Calls P fS #[.func (.func kI) #[] #[.pointer (some ⟨Bm, 0, none⟩)]] W fun e w' => ∃ (v : Value) (ss : List (List UInt8)), e = .returned v ∧ ss.Perm (strKeys D0) ∧
      w'.ownsRow W.heap.size kt 1 v ss.length ((ss.mergeSort (fun x y => decide (x ≤ y))).map encStr) ∧ (v = .slice none 0 0 ↔ ss = []) ∧ Go.RowKit.Below W.heap.size W w'

theorem leB_of_blt {a b : List UInt8} (h : blt a b = true) : leB a b = true := by
  simp only [leB, decide_eq_true_eq]
  exact List.le_of_lt ((blt_iff a b).1 h)

theorem sortedH_ok {P : Program} {fS : FuncId} {its : List FuncId} {kt : TypeId} (hkt : P.underlying kt = some .string) (hc : ∀ k ∈ its, SortedSays P fS k kt) :
    CallOk P (fun f' args S d => if f' = fS then sortedH its kt args S d else none) := by
  intro f' args S d v S' d' e w0 g w args' h hl
  simp only [] at e
  split at e
  case isFalse => cases e
  rename_i hf'
  subst hf'
  unfold sortedH at e
  split at e
  case h_2 => cases e
  rename_i r hr
  split at e
  case h_2 => cases e
  rename_i m es clock hmap
  split at e
  case h_2 => cases e
  rename_i ks hks hfr
  simp only [] at e
  split at e
  case isFalse => cases e
  rename_i hcond
  simp only [Bool.and_eq_true, Nat.ble_eq] at hcond
  obtain ⟨⟨⟨hst, hasc⟩, hsh⟩, hlen⟩ := hcond
  -- the argument
  have harg : ∃ k, k ∈ its ∧ args = [.func (.func k) #[] #[.pointer (some ⟨r, 0, none⟩)]] := by
    unfold seqArg at hr
    split at hr
    case h_2 => cases hr
    rename_i k f c
    split at hr
    case h_2 => cases hr
    rename_i r0 hf hcc
    split at hr
    case isFalse => cases hr
    rename_i hin
    cases hr
    refine ⟨k, by simpa using hin, ?_⟩
    obtain ⟨f⟩ := f
    obtain ⟨c⟩ := c
    simp only at hf hcc
    subst hf hcc
    rfl
  obtain ⟨k, hk, rfl⟩ := harg
  obtain ⟨t0, hcells, hm⟩ : ∃ t0, S.get r = some (.cells [.map (some m)] t0) ∧ S.get m = some (.map es clock) := by
    unfold mapAt at hmap
    split at hmap
    case h_2 => cases hmap
    rename_i m0 t0 h1
    split at hmap
    case h_2 => cases hmap
    rename_i es0 c0 h2
    cases hmap
    exact ⟨_, h1, h2⟩
  obtain ⟨x, hx, cs, fr, hb, hcl, _⟩ := h.live r _ hcells
  obtain ⟨y, hy, es', hbm, hl2⟩ := h.live m _ hm
  have hargs' : args' = [.func (.func k) #[] #[.pointer (some ⟨x.b, 0, none⟩)]] := by
    have h1 := hl.1
    match args', h1 with
    | [u], _ =>
      have := hl.2 0 _ _ rfl rfl
      obtain ⟨c', rfl, hcc⟩ := this.func_inv
      congr 1
      have hlen1 := hcc.1
      obtain ⟨c'⟩ := c'
      match c', hlen1 with
      | [p], _ =>
        have hp := hcc.2 0 _ _ rfl rfl
        obtain ⟨_, nm, hnm, rfl⟩ := hp.ptr_inv
        rw [hx] at hnm; cases hnm
        rfl
  subst hargs'
  have hcell : w.cell? ⟨x.b, 0, none⟩ = some (.map (some y.b)) := by
    rw [cell_of_block hb]
    obtain ⟨u, h1, h2⟩ := hcl.get (i := 0) (v := .map (some m)) rfl
    obtain ⟨nm, hnm, rfl⟩ := h2.map_inv
    rw [hy] at hnm; cases hnm
    simpa using h1
  -- the map
  obtain ⟨hkey, hkeys⟩ := keyBytes_some hl2 hks
  have hpw := ascS_pairwise hasc
  have hnd : ks.Nodup := (sortS_perm ks).nodup_iff.1 (hpw.imp fun {a b} hab hne => by subst hne; rw [blt_irr] at hab; cases hab)
  have hst' := stampsB_pairwise hst
  have hborn := hl2.borns
  have hstamped : MapKept.Stamped es' clock := by
    refine ⟨fun z hz => ?_, ?_, ?_⟩
    · have : z.born ∈ es.map (·.born) := by rw [hborn]; exact List.mem_map.2 ⟨z, hz, rfl⟩
      obtain ⟨z0, h1, h2⟩ := List.mem_map.1 this
      rw [← h2]; exact hst'.2 z0 h1
    · rw [← hborn]
      refine List.pairwise_map.2 (hst'.1.imp fun {a b} hab hne => by omega)
    · rw [hkeys]
      refine List.pairwise_map.2 (hnd.imp fun {a b} hne hab => hne ?_)
      simpa using hab
  have hsz : es'.size ≤ 1000000 := by
    have := hl2.length
    simp at this
    omega
  have hfit : WideElems.Fit P kt RU es' clock := by
    refine ⟨by rw [maxLen_eq]; omega, hstamped, fun z hz => ?_⟩
    obtain ⟨s, e1, e2⟩ := hkey z hz
    have hs : s.size ≤ maxLen := by
      have := shortKeys_le hsh _ e2
      have h3 : s.size = s.data.toList.length := rfl
      rw [maxLen_eq]; omega
    exact ⟨(.string s.data.toList, .nil), by simp [WideElems.rd, e1, WideMaps.keyOf_string_mk hkt hs]⟩
  obtain ⟨D0, hD0⟩ : ∃ D0 : DataW Unit, D0 = .map ((es'.toList.map (WideElems.rg P kt RU)).foldr DataW.insert []) := ⟨_, rfl⟩
  have hown : w.ownsMap P kt RU y.b es'.size D0 := ⟨es', clock, hbm, hfit, Nat.le_refl _, hD0⟩
  have hD0len : Maps.size D0 = es'.size := by
    rw [hD0]
    simp [Maps.size, length_sorted]
  have hperm : (strKeys D0).Perm ks := by
    rw [hD0]
    simp only [strKeys]
    refine ((WideShapes.sorted_perm _).map _).trans (List.Perm.of_eq ?_)
    have key : ∀ (l : List MapEntry) (ls : List (List UInt8)), l.map (·.key) = ls.map (fun l => Value.string ⟨l.toArray⟩) → (∀ z ∈ l, ∃ s : ByteArray, z.key = .string s ∧ s.size ≤ maxLen) → (l.map (WideElems.rg P kt RU)).map (fun p => strOf p.1) = ls := by
      intro l
      induction l with
      | nil => intro ls h1 _; cases ls with | nil => rfl | cons => simp at h1
      | cons z l ih =>
        intro ls h1 h2
        cases ls with
        | nil => simp at h1
        | cons b ls =>
          simp only [List.map_cons, List.cons.injEq] at h1 ⊢
          refine ⟨?_, ih ls h1.2 fun z hz => h2 z (List.mem_cons_of_mem _ hz)⟩
          obtain ⟨s, e1, e2⟩ := h2 z (List.mem_cons_self ..)
          have hs : s = ⟨b.toArray⟩ := by rw [e1] at h1; simpa using h1.1
          have : WideElems.rg P kt RU z = (.string s.data.toList, .nil) := by simp [WideElems.rg, WideElems.rd, e1, WideMaps.keyOf_string_mk hkt e2]
          rw [this, hs]
          rfl
    refine key _ _ hkeys fun z hz => ?_
    obtain ⟨s, e1, e2⟩ := hkey z hz
    refine ⟨s, e1, ?_⟩
    have := shortKeys_le hsh _ e2
    have h3 : s.size = s.data.toList.length := rfl
    rw [maxLen_eq]; omega
  have hsorted : ∀ ss : List (List UInt8), ss.Perm (strKeys D0) → ss.mergeSort (fun x y => decide (x ≤ y)) = sortS ks := fun ss hss => by
    have h1 : ss.Perm (sortS ks) := (hss.trans hperm).trans (sortS_perm ks).symm
    rw [mergeSort_of_perm h1]
    exact List.mergeSort_of_pairwise (hpw.imp fun {a b} hab => leB_of_blt hab)
  have hklen : ks.length = es.length := by
    have := congrArg List.length hkeys
    have h2 := hl2.length
    simp at this h2
    omega
  refine (hc k hk w x.b y.b es'.size D0 (block_lt hb) hcell hown (by rw [hD0len]; rw [maxLen_eq]; omega) (by rw [hD0len]; omega)).mono ?_
  rintro e2 w' ⟨v', ss, rfl, hss, hrow, hnil, hbelow⟩
  have hkn : Kn w w' := Kp.of_below hbelow
  rw [hsorted ss hss] at hrow
  have hslen : ss.length = es.length := by rw [(hss.trans hperm).length_eq, hklen]
  have hsim := h.kept hkn
  obtain ⟨hrl, hr2⟩ := hrow
  split at e
  · rename_i hemp
    cases e
    have : ss = [] := by
      have h1 := (sortS_perm ks).length_eq
      rw [hemp] at h1
      exact List.eq_nil_of_length_eq_zero (by rw [hslen, ← hklen]; simpa using h1.symm)
    exact ⟨v', g, rfl, g.le_refl, by rw [hnil.2 this]; exact .closed (n := 1) rfl, hsim⟩
  · rename_i hne
    cases e
    rcases hr2 with ⟨_, h0⟩ | ⟨gb, cap, cur, rfl, hbase, hgb, r1, r2, r3, r4⟩
    · exfalso
      have h1 := (sortS_perm ks).length_eq
      exact hne (List.eq_nil_of_length_eq_zero (by omega))
    · have gfr := h.none_of hfr
      refine ⟨_, g.put d ⟨gb, 1, cap⟩, rfl, Gm.le_put _ gfr, ?_, h.new hkn hfr hbase ?_⟩
      · have := VR.sliceU (g := g.put d ⟨gb, 1, cap⟩) (o := 0) (l := es.length) (g.put_self d ⟨gb, 1, cap⟩) (by rw [← hslen]; simpa using r1)
        rw [hslen]
        simpa using this
      · refine ⟨cur, (0, 0), hgb, ?_, thaw0 _, by omega, rfl, by simpa using r3⟩
        have hl3 : ((sortS ks).map fun l => Value.string ⟨l.toArray⟩).length = ss.length * 1 := by
          rw [List.length_map, (sortS_perm ks).length_eq, hklen, hslen]; omega
        rw [hl3, r4]
        exact .of_closed (n := 1) (by simp [closed])
end Go.Proofs.Ytckejldjoajpgaa
