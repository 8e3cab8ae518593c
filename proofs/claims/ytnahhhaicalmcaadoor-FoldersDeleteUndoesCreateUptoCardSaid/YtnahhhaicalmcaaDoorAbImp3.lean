/- Stores. -/
import Derived.Test.YtnahhhaicalmcaaDoorAbImp2
set_option linter.unusedVariables false
set_option linter.unusedSimpArgs false
namespace Go.Ab
open Go.RowKit
variable {C : Ctx} {P : Program}

def splice {α : Type} (l : List α) (o : Nat) (c : List α) : List α := l.take o ++ c ++ l.drop (o + c.length)
theorem splice_length {α : Type} (l : List α) (o : Nat) (c : List α) (h : o + c.length ≤ l.length) : (splice l o c).length = l.length := by
  simp [splice]; omega
theorem splice_mid {α : Type} (A B D c : List α) (q : Nat) (h : q + c.length ≤ B.length) : splice (A ++ B ++ D) (A.length + q) c = A ++ splice B q c ++ D := by
  unfold splice
  have e1 : (A ++ B ++ D).take (A.length + q) = A ++ B.take q := by
    rw [List.append_assoc, List.take_append, List.take_of_length_le (by omega)]
    congr 1
    rw [Nat.add_sub_cancel_left, List.take_append_of_le_length (by omega)]
  have e2 : (A ++ B ++ D).drop (A.length + q + c.length) = B.drop (q + c.length) ++ D := by
    rw [List.append_assoc, List.drop_append, List.drop_eq_nil_of_le (by omega), List.nil_append]
    rw [show A.length + q + c.length - A.length = q + c.length by omega, List.drop_append_of_le_length (by omega)]
  rw [e1, e2]
  simp [List.append_assoc]
theorem splice_all {α : Type} (l c : List α) (h : c.length = l.length) : splice l 0 c = c := by
  unfold splice
  rw [List.take_zero, List.nil_append, Nat.zero_add, h, List.drop_length, List.append_nil]
theorem splice_exact {α : Type} (A B D c : List α) (h : c.length = B.length) : splice (A ++ B ++ D) A.length c = A ++ c ++ D := by
  have := splice_mid A B D c 0 (by omega)
  rw [Nat.add_zero] at this
  rw [this, splice_all B c h]

theorem splice_seg {α : Type} (l B c : List α) (off q : Nat) (hk : ∀ (k : Nat) v, B[k]? = some v → l[off + k]? = some v) (hl : off + B.length ≤ l.length) (h : q + c.length ≤ B.length) :
    splice l (off + q) c = splice l off (splice B q c) := by
  have hB : (l.drop off).take B.length = B := by
    apply List.ext_getElem?
    intro k
    by_cases hlt : k < B.length
    · rw [List.getElem?_take_of_lt hlt, List.getElem?_drop, hk k B[k] (List.getElem?_eq_getElem hlt), List.getElem?_eq_getElem hlt]
    · rw [List.getElem?_eq_none (by simp; omega), List.getElem?_eq_none (by omega)]
  have e : l = l.take off ++ B ++ l.drop (off + B.length) := by
    rw [← hB, List.length_take, List.length_drop, Nat.min_eq_left (by omega), List.append_assoc]
    rw [show l.drop (off + B.length) = (l.drop off).drop B.length by rw [List.drop_drop], List.take_append_drop, List.take_append_drop]
  have ht : (l.take off).length = off := by simp; omega
  have h1 := splice_mid (l.take off) B (l.drop (off + B.length)) c q h
  have h2 := splice_exact (l.take off) B (l.drop (off + B.length)) (splice B q c) (splice_length B q c h)
  rw [ht] at h1 h2
  rw [← e] at h1 h2
  rw [h1, h2]
theorem splice_get {α : Type} (l c : List α) (o k : Nat) (h : o + c.length ≤ l.length) : (splice l o c)[k]? = if k < o then l[k]? else if k < o + c.length then c[k - o]? else l[k]? := by
  unfold splice
  have ht : (l.take o).length = o := by simp; omega
  by_cases h1 : k < o
  · rw [if_pos h1, List.append_assoc, List.getElem?_append_left (by omega), List.getElem?_take_of_lt h1]
  · rw [if_neg h1, List.append_assoc, List.getElem?_append_right (by omega), ht]
    by_cases h2 : k < o + c.length
    · rw [if_pos h2, List.getElem?_append_left (by omega)]
    · rw [if_neg h2, List.getElem?_append_right (by omega), List.getElem?_drop]
      congr 1
      omega
theorem take_splice {α : Type} (l c : List α) (o n : Nat) (h : o + c.length ≤ n) (hn : n ≤ l.length) : (splice l o c).take n = splice (l.take n) o c := by
  apply List.ext_getElem?
  intro k
  rw [splice_get _ _ _ _ (by simp; omega)]
  by_cases hk : k < n
  · rw [List.getElem?_take_of_lt hk, splice_get _ _ _ _ (by omega), List.getElem?_take_of_lt hk]
  · rw [List.getElem?_eq_none (by simp; omega), if_neg (by omega), if_neg (by omega), List.getElem?_eq_none (by simp; omega)]
theorem chunk_getq {l : List Value} {n i k : Nat} : (chunk l n i)[k]? = if k < n then l[i * n + k]? else none := by
  unfold chunk
  by_cases hk : k < n
  · rw [if_pos hk, List.getElem?_take_of_lt hk, List.getElem?_drop]
  · rw [if_neg hk, List.getElem?_eq_none (by simp; omega)]
theorem chunk_splice {l c : List Value} {n idx q i : Nat} (hq : q + c.length ≤ n) (hl : idx * n + n ≤ l.length) : chunk (splice l (idx * n + q) c) n i = if i = idx then splice (chunk l n idx) q c else chunk l n i := by
  have hcl : (chunk l n idx).length = n := by unfold chunk; simp; omega
  apply List.ext_getElem?
  intro k
  by_cases hi : i = idx
  · subst hi
    rw [if_pos rfl, splice_get _ _ _ _ (by omega), chunk_getq, chunk_getq, splice_get _ _ _ _ (by omega)]
    by_cases hk : k < n
    · rw [if_pos hk, if_pos hk]
      by_cases h1 : k < q
      · rw [if_pos h1, if_pos (by omega)]
      · rw [if_neg h1, if_neg (by omega)]
        by_cases h2 : k < q + c.length
        · rw [if_pos h2, if_pos (by omega)]; congr 1; omega
        · rw [if_neg h2, if_neg (by omega)]
    · rw [if_neg hk, if_neg hk, if_neg (by omega), if_neg (by omega)]
  · rw [if_neg hi, chunk_getq, chunk_getq]
    by_cases hk : k < n
    · rw [if_pos hk, if_pos hk, splice_get _ _ _ _ (by omega)]
      rcases Nat.lt_or_gt_of_ne hi with h | h
      · have : i * n + n ≤ idx * n := by have : (i + 1) * n ≤ idx * n := Nat.mul_le_mul_right _ h
                                         rwa [Nat.add_mul, Nat.one_mul] at this
        rw [if_pos (by omega)]
      · have : idx * n + n ≤ i * n := by have : (idx + 1) * n ≤ i * n := Nat.mul_le_mul_right _ h
                                         rwa [Nat.add_mul, Nat.one_mul] at this
        rw [if_neg (by omega), if_neg (by omega)]
    · rw [if_neg hk, if_neg hk]
theorem length_setUs : ∀ (xs : List U) (i : Nat) (v : U), (setUs xs i v).length = xs.length
  | [], _, _ => rfl
  | _ :: _, 0, _ => rfl
  | _ :: l, i + 1, v => by simp [setUs, length_setUs l i v]
theorem flatMap_split {α : Type} (cs : Nat → List α) (n j : Nat) (hj : j < n) : (List.range n).flatMap cs = (List.range j).flatMap cs ++ cs j ++ (List.range (n - j - 1)).flatMap (fun i => cs (j + 1 + i)) := by
  have e : List.range n = List.range j ++ [j] ++ (List.range (n - j - 1)).map (fun i => j + 1 + i) := by
    apply List.ext_getElem
    · simp; omega
    · intro i h1 h2
      simp only [List.getElem_range, List.append_assoc, List.getElem_append]
      split
      · simp
      · simp at h1
        rename_i h3
        simp at h3
        by_cases h4 : i = j
        · subst h4; simp
        · have : ¬ i - j < 1 := by omega
          simp [this]; omega
  rw [e, List.flatMap_append, List.flatMap_append, List.flatMap_map]
  simp
theorem flatMap_upd {α : Type} (cs : Nat → List α) (n j : Nat) (hj : j < n) (c : List α) (q : Nat) (h : q + c.length ≤ (cs j).length) :
    splice ((List.range n).flatMap cs) (((List.range j).map fun i => (cs i).length).sum + q) c = (List.range n).flatMap (fun i => if i = j then splice (cs j) q c else cs i) := by
  rw [flatMap_split cs n j hj, flatMap_split (fun i => if i = j then splice (cs j) q c else cs i) n j hj]
  have e1 : (List.range j).flatMap (fun i => if i = j then splice (cs j) q c else cs i) = (List.range j).flatMap cs := by
    apply flatMap_congr'
    intro i hi
    simp at hi
    rw [if_neg (by omega)]
  have e2 : ((List.range j).map fun i => (cs i).length).sum = ((List.range j).flatMap cs).length := by rw [flatMap_length]
  rw [e1, e2, splice_mid _ _ _ _ _ h]
  simp only [if_pos]
  congr 1
  apply flatMap_congr'
  intro i _
  rw [if_neg (by omega)]

theorem get_upd (u v : U) (j i : Nat) (hi : ∃ b n g, u = .N b n g) : (u.upd j v).get i = if i = j then v else u.get i := by
  obtain ⟨b, n, g, rfl⟩ := hi
  simp only [U.upd, U.get, nbeq]
  by_cases h : i = j <;> simp [h, U.get]
theorem get_upd' (u v : U) (j i : Nat) : (u.upd j v).get i = if i = j then v else u.get i := by
  simp only [U.upd, U.get, nbeq]
  by_cases h : i = j <;> simp [h]

/-- a part of a struct is written -/
theorem Rep.setp (ok : CtxOk P C) {H : View} : ∀ {p : List Nat} {t : Nat} {l cs : List Value} {u y : U}, okPath C t p → Rep C H t l u → Rep C H (ptype C t p) cs y →
    poff C t p + cs.length ≤ l.length ∧ Rep C H t (splice l (poff C t p) cs) (u.setp y p)
  | [], t, l, cs, u, y, _, r, r' => by
    have h1 := r.length ok
    have h2 : cs.length = C.sz t := r'.length ok
    refine ⟨by simp [poff]; omega, ?_⟩
    simp only [poff, U.setp]
    rw [splice_all l cs (by omega)]
    exact r'
  | j :: p, t, l, cs, u, y, ⟨fs, h1, h2, h3⟩, r, r' => by
    have e : ftype C t j = nthN fs j := by simp [ftype, h1]
    cases r with
    | @st _ fs' _ _ csj h hr hl =>
      rw [h1] at h; cases h
      have ih := Rep.setp ok (p := p) (y := y) h3 (hr j h2) (by simpa [ptype, e] using r')
      have hoff : fieldOff C fs j = ((List.range j).map fun i => (csj i).length).sum := by
        unfold fieldOff
        rw [← sum_range_take fs C.sz j (by omega)]
        congr 1
        apply List.map_congr_left
        intro i hi
        simp at hi
        exact ((hr i (by omega)).length ok).symm
      simp only [poff, h1, e, hoff, hl]
      refine ⟨?_, ?_⟩
      · rw [flatMap_split csj fs.length j h2, List.length_append, List.length_append, ← flatMap_length]
        have := ih.1
        omega
      · rw [flatMap_upd csj fs.length j h2 cs _ ih.1]
        refine .st _ h1 (fun i hi => ?_) rfl
        simp only [U.setp, get_upd']
        by_cases hij : i = j
        · subst hij; rw [if_pos rfl, if_pos rfl]; exact ih.2
        · rw [if_neg hij, if_neg hij]; exact hr i hi
    | _ => simp_all

/-- a variable of a box is written -/
theorem RepVs.set {H : View} {ι : Own} {sto : Sto} : ∀ {ts : List Nat} {xs : List AV} {l : List Value} {j : Nat} {x : AV} {v : Value} {cs : List Value}, RepVs C H ι sto ts xs l → j < ts.length →
    cs.length = C.sz (nthN ts j) → IsVal C (nthN ts j) v cs → RepA C H ι sto x v → (∀ u ∈ cs, u.oneCell' = true) → (∀ u, x.flat = some u → Rep C H (nthN ts j) cs u) →
    RepVs C H ι sto ts (setl xs j x) (splice l (fieldOff C ts j) cs) ∧ fieldOff C ts j + cs.length ≤ l.length
  | t :: ts, y :: xs, l, 0, x, v, cs, k, hj, h1, h2, h3, h4, h5 => by
    obtain ⟨v', cs', l', e1, e2, e3, e4, e5, e6, e7⟩ := k
    simp only [nthN] at h1 h2 h5
    have e : splice l (fieldOff C (t :: ts) 0) cs = cs ++ l' := by
      rw [e1]
      have := splice_exact [] cs' l' cs (by omega)
      simpa [fieldOff] using this
    rw [e]
    exact ⟨⟨v, cs, l', rfl, h1, h2, h3, h4, h5, e7⟩, by simp [fieldOff, e1]; omega⟩
  | t :: ts, y :: xs, l, j + 1, x, v, cs, k, hj, h1, h2, h3, h4, h5 => by
    obtain ⟨v', cs', l', e1, e2, e3, e4, e5, e6, e7⟩ := k
    obtain ⟨ih, hle⟩ := RepVs.set (j := j) e7 (by simpa using hj) (by simpa [nthN] using h1) (by simpa [nthN] using h2) h3 h4 (by simpa [nthN] using h5)
    have e : splice l (fieldOff C (t :: ts) (j + 1)) cs = cs' ++ splice l' (fieldOff C ts j) cs := by
      rw [e1]
      have := splice_mid cs' l' [] cs (fieldOff C ts j) hle
      simp only [List.append_nil] at this
      rw [← this]
      congr 1
      simp [fieldOff, e2]
    rw [e]
    exact ⟨⟨v', cs', _, rfl, e2, e3, e4, e5, e6, ih⟩, by simp [fieldOff, e1, e2] at *; omega⟩
  | [], _, _, j, _, _, _, _, hj, _, _, _, _, _ => by simp at hj
  | _ :: _, [], _, _, _, _, _, k, _, _, _, _, _, _ => k.elim

end Go.Ab
