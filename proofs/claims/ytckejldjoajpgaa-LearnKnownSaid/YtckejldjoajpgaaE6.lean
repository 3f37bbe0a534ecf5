/- Operations that ask no world, run on shadow values: the value of one, and that it is so. Nothing of the program. -/
import Derived.Test.YtckejldjoajpgaaE5
namespace Go.Proofs.Ytckejldjoajpgaa
open Go
set_option linter.all false

section
variable {P : Program} {g : Gm}

theorem okCap_some {o : Option Value} {u : Value} (h : okCap o = some u) : o = some u ∧ capOk u = true := by
  cases o with
  | none => cases h
  | some x => simp only [okCap] at h; split at h <;> cases h; exact ⟨rfl, by assumption⟩

theorem sliceS_ok {v v' : Value} (h : VR g v v') (t : TypeId) {lo lo' hi hi' mx mx' : Option Value} (h1 : OpR g lo lo') (h2 : OpR g hi hi') (h3 : OpR g mx mx') {u : Value} (e : sliceS P t v lo hi mx = some u) :
    ∃ u', prun P (Instr.sliceAt t v' lo' hi' mx') = some u' ∧ VR g u u' := by
  have plain : capOk v = true → okCap (prun P (Instr.sliceAt t v lo hi mx)) = some u → ∃ u', prun P (Instr.sliceAt t v' lo' hi' mx') = some u' ∧ VR g u u' := fun hc e => by
    obtain ⟨e1, e2⟩ := okCap_some e
    obtain ⟨u', x, y⟩ := sliceAt_pr h hc t h1 h2 h3 u e1
    exact ⟨u', x, y e2⟩
  cases v with
  | slice a l c =>
    cases a with
    | none => exact plain rfl e
    | some a =>
      by_cases hc : c = UNK
      · subst hc
        have h' := h
        obtain ⟨r, o, s⟩ := a
        obtain ⟨rfl, nm, hn, rfl, hle⟩ := h'.slice_inv
        have hle := hle rfl
        simp only [if_true]
        cases h3 with
        | none =>
          cases h1 with
          | some _ => simp [sliceS] at e
          | none =>
            have key : ∀ (e' : TypeId) (hh : Nat) (n : Nat), prun P (underlying t) = some (.slice e') → hh ≤ l → prun P (sizeOf e') = some n → prun P (Instr.sliceBounds true l (nm.n - o / nm.sz) none hi' none) = some (0, hh, nm.n - o / nm.sz) →
                ∃ u', prun P (Instr.sliceAt t (.slice (some ⟨nm.b, o, none⟩) l (nm.n - o / nm.sz)) none hi' none) = some u' ∧ VR g (.slice (some ⟨r, o, none⟩) hh UNK) u' := by
              intro e' hh n ht hl hn2 hb
              refine ⟨.slice (some ⟨nm.b, o, none⟩) hh (nm.n - o / nm.sz), ?_, .sliceU hn (by omega)⟩
              unfold Instr.sliceAt
              rw [prun_bind, ht]
              simp only [Option.bind]
              unfold Instr.slice
              rw [prun_bind, ht]
              simp only [Option.bind]
              rw [prun_bind, hb]
              simp only [Option.bind]
              rw [prun_bind, hn2]
              simp only [Option.bind, Nat.zero_mul, Nat.sub_zero, Option.map_some]
              rw [add_none]
              simp [Pure.pure, prun]
            cases h2 with
            | none =>
              simp only [sliceS, if_true] at e
              split at e
              · rename_i ht
                split at e
                · rename_i hz
                  cases e
                  exact key _ l _ ht (Nat.le_refl _) hz rfl
                · cases e
              · rename_i hh _; cases hh
              · cases e
            | @some a b hab =>
              cases a with
              | int k n =>
                have hab := hab.int_inv
                subst hab
                simp only [sliceS, if_true] at e
                cases ht : prun P (underlying t) with
                | none => rw [ht] at e; cases e
                | some d =>
                  rw [ht] at e
                  cases d with
                  | slice el =>
                    simp only [] at e
                    split at e
                    · rename_i hnl
                      cases hz : prun P (sizeOf el) with
                      | none => rw [hz] at e; cases e
                      | some n2 =>
                        rw [hz] at e
                        cases e
                        refine key _ n.toNat _ ht (by omega) hz ?_
                        unfold Instr.sliceBounds Instr.sliceBound
                        simp only [prun_bind, asIntOf, Pure.pure, prun, Option.bind]
                        rw [if_pos (by omega)]
                        simp [prun]
                    · cases e
                  | _ => cases e
              | _ => simp [sliceS] at e
        | @some m m' hm =>
          simp only [sliceS, if_true] at e
          split at e
          · cases e
          · rename_i hl
            obtain ⟨e1, e2⟩ := okCap_some e
            obtain ⟨u', x, y⟩ := sliceAt_pr (.slice hn hl) (by simpa [capOk] using hl) t h1 h2 (.some hm) u e1
            refine ⟨u', ?_, y e2⟩
            -- the greater room
            have more : PR P Eq (Instr.sliceAt t (.slice (some ⟨nm.b, o, none⟩) l l) lo' hi' (some m')) (Instr.sliceAt t (.slice (some ⟨nm.b, o, none⟩) l (nm.n - o / nm.sz)) lo' hi' (some m')) := by
              unfold Instr.sliceAt
              refine .bind_eq fun d => ?_
              cases d with
              | array n el => exact .nothing rfl
              | _ =>
                simp only []
                unfold Instr.slice
                refine .bind_eq fun d2 => ?_
                cases d2 with
                | slice el => exact .bind (sliceBounds_more hle) fun a b e => e ▸ .same fun _ => rfl
                | _ => exact .nothing rfl
            obtain ⟨u2, x2, rfl⟩ := more u' x
            exact x2
      · simp only [sliceS, if_neg hc] at e
        exact plain (by simp [capOk, hc]) e
  | _ => exact plain rfl e
end
end Go.Proofs.Ytckejldjoajpgaa
