/- A part of an own row is written over. -/
import Derived.Test.YtnahhhaicalmcaaDoorAbImp4
import Derived.Laws.CopyRow
set_option linter.unusedVariables false
set_option linter.unusedSimpArgs false
namespace Go.Ab
open Go.RowKit
variable {C : Ctx} {P : Program}

theorem chunk_splices {l c : List Value} {n m o k i : Nat} (hc : c.length = k * n) (hl : l.length = m * n) (hk : o + k ≤ m) (_hi : i < m) : chunk (splice l (o * n) c) n i = if o ≤ i ∧ i < o + k then chunk c n (i - o) else chunk l n i := by
  have h1 : o * n + c.length ≤ l.length := by rw [hc, hl, ← Nat.add_mul]; exact Nat.mul_le_mul_right _ hk
  apply List.ext_getElem?
  intro j
  rw [chunk_getq]
  have hlt : ∀ a b : Nat, a < b → j < n → a * n + j < b * n := by
    intro a b hab hj
    have : (a + 1) * n ≤ b * n := Nat.mul_le_mul_right _ hab
    rw [Nat.add_mul] at this
    omega
  have hge : ∀ a b : Nat, a ≤ b → a * n ≤ b * n := fun a b h => Nat.mul_le_mul_right _ h
  by_cases hj : j < n
  · rw [if_pos hj, splice_get _ _ _ _ h1]
    by_cases hcond : o ≤ i ∧ i < o + k
    · rw [if_pos hcond, chunk_getq, if_pos hj]
      have := hge o i hcond.1
      have := hlt i (o + k) hcond.2 hj
      rw [if_neg (by omega), if_pos (by rw [hc]; rw [Nat.add_mul] at this; omega)]
      congr 1
      rw [Nat.mul_sub_right_distrib]
      omega
    · rw [if_neg hcond, chunk_getq, if_pos hj]
      by_cases h2 : i < o
      · have := hlt i o h2 hj
        rw [if_pos this]
      · have h3 : o + k ≤ i := by
          rcases Nat.lt_or_ge i (o + k) with h | h
          · exact (hcond ⟨by omega, h⟩).elim
          · exact h
        have := hge (o + k) i h3
        rw [Nat.add_mul] at this
        rw [if_neg (by omega), if_neg (by omega)]
  · rw [if_neg hj]
    split <;> rw [chunk_getq, if_neg hj]
theorem nth_splice {xs ys : List U} {o i : Nat} (h : o + ys.length ≤ xs.length) : U.nth (splice xs o ys) i = if o ≤ i ∧ i < o + ys.length then U.nth ys (i - o) else U.nth xs i := by
  rw [nth_get, splice_get _ _ _ _ h]
  by_cases h1 : i < o
  · rw [if_pos h1, if_neg (by omega), nth_get]
  · rw [if_neg h1]
    by_cases h2 : i < o + ys.length
    · rw [if_pos h2, if_pos ⟨by omega, h2⟩, nth_get]
    · rw [if_neg h2, if_neg (by omega), nth_get]

theorem splice_sound {f : Fr} (hf : FrOk f) {ι : Own} {st : St} {a : Act} {w : World} (s : Sim C f ι st a w) {id e : Nat} {z : Bool} {xs ys : List U} {o : Nat} {cys : List Value} (hs : st.sto id = some (.arr e z xs))
    (hlen : cys.length = ys.length * C.sz e) (hrep : ∀ i, i < ys.length → Rep C (view f ι st.sto w) e (chunk cys (C.sz e) i) (U.nth ys i)) (h1 : ∀ v ∈ cys, v.oneCell' = true) (ho : o + ys.length ≤ xs.length) {g cap : Nat} (hg : ι id = .slice (some ⟨g, 0, none⟩) xs.length cap) :
    ∃ w', (storeCells ⟨g, o * C.sz e, none⟩ cys 0).run P w = .ok () w' ∧ Sim C f ι (st.blk id (.arr e z (splice xs o ys))) a w' := by
  obtain ⟨cs, k1, k2, k3, k4⟩ := (s.blk id).arr hs
  rcases k1.2 with ⟨e1, _⟩ | ⟨g', cap', cur, e1, e2, e3, e4, e5, e6, e7⟩
  · rw [hg] at e1; cases e1
  · rw [hg] at e1; cases e1
    have hcl : cs.length = xs.length * C.sz e := k1.1
    have hfit : o * C.sz e + cys.length ≤ cs.length := by rw [hlen, hcl, ← Nat.add_mul]; exact Nat.mul_le_mul_right _ ho
    have hcur : xs.length * C.sz e ≤ cur.size := Nat.le_trans (Nat.mul_le_mul_right _ e4) e6
    have hsl : (splice xs o ys).length = xs.length := splice_length _ _ _ ho
    refine ⟨_, run_storeCells_at P g (o * C.sz e) e cys 0 cur w e3 (by omega) h1, ?_⟩
    simp only [Nat.add_zero]
    show Sim C f ι _ a (w.setRow g (splice cur.toList (o * C.sz e) cys).toArray)
    have hle := StoLe.arr (ι := ι) (z' := z) (xs' := splice xs o ys) hs hsl
    refine (s.upd hf hs (live_arr hs) hle ((keep_setRow w g _).weaken (fun b hb => by rw [hg]; simpa [blkOf] using hb.symm)) (fun hl => ?_)).1
    unfold BlkOk
    have : (st.blk id (.arr e z (splice xs o ys))).sto id = some (.arr e z (splice xs o ys)) := by simp [St.blk, nbeq]
    rw [this]
    refine ⟨splice cs (o * C.sz e) cys, ⟨?_, .inr ⟨g, cap, _, by rw [hsl]; exact hg, trivial, setRow_heap w g cur _ e _ e3, by rw [hsl]; exact e4, e5, ?_, ?_⟩⟩, ?_, ?_, k4⟩
    · rw [hsl, splice_length _ _ _ hfit]; exact hcl
    · simp only [List.size_toArray]
      rw [splice_length _ _ _ (by simp only [Array.length_toList]; omega)]
      simpa using e6
    · rw [hsl, take_splice _ _ _ _ (by omega) (by simpa using hcur), e7]
    · intro i hi
      rw [hsl] at hi
      rw [chunk_splices hlen hcl ho hi, nth_splice ho]
      split
      · exact (hrep _ (by omega)).mono hl
      · exact (k2 i hi).mono hl
    · rw [k3]
      constructor
      · rintro ⟨a1, a2⟩
        refine ⟨a1, List.eq_nil_of_length_eq_zero ?_⟩
        rw [hsl, a2]; rfl
      · rintro ⟨a1, a2⟩
        refine ⟨a1, List.eq_nil_of_length_eq_zero ?_⟩
        rw [← hsl, a2]; rfl

end Go.Ab
