/- Values that are built out of parts. -/
import Derived.Test.YtnahhhaicalmcaaDoorAbPure
set_option linter.unusedVariables false
set_option linter.unusedSimpArgs false
namespace Go.Ab
open Go.RowKit
variable {C : Ctx} {P : Program}

def upAt {α : Type} (f : Nat → α) (i : Nat) (x : α) : Nat → α := fun j => if j = i then x else f j
def offs {α : Type} (cs : Nat → List α) (j : Nat) : Nat := ((List.range j).map fun i => (cs i).length).sum
theorem flat_len {α : Type} (cs : Nat → List α) (n : Nat) : ((List.range n).flatMap cs).length = offs cs n := by rw [flatMap_length]; rfl
theorem offs_succ {α : Type} (cs : Nat → List α) (n : Nat) : offs cs (n + 1) = offs cs n + (cs n).length := by simp [offs, List.range_succ]
theorem offs_le {α : Type} (cs : Nat → List α) {i n : Nat} (h : i < n) : offs cs i + (cs i).length ≤ offs cs n := by
  induction n with
  | zero => omega
  | succ n ih =>
    rw [offs_succ]
    by_cases e : i = n
    · subst e; omega
    · have := ih (by omega); omega
theorem flatMap_congr' {α β : Type} (l : List α) (f g : α → List β) (h : ∀ a ∈ l, f a = g a) : l.flatMap f = l.flatMap g := by
  induction l with
  | nil => rfl
  | cons a l ih => simp only [List.flatMap_cons]; rw [h a (by simp), ih (fun b hb => h b (by simp [hb]))]
theorem seg_put {α : Type} (cs : Nat → List α) (i : Nat) (x : List α) (hx : x.length = (cs i).length) : ∀ n, i < n →
    ((List.range n).flatMap cs).take (offs cs i) ++ x ++ ((List.range n).flatMap cs).drop (offs cs i + x.length) = (List.range n).flatMap (upAt cs i x)
  | 0, h => by omega
  | n + 1, h => by
    have hl := flat_len cs n
    rw [List.range_succ, List.flatMap_append, List.flatMap_append]
    simp only [List.flatMap_cons, List.flatMap_nil, List.append_nil]
    by_cases e : i = n
    · subst e
      rw [List.take_append_of_le_length (by omega), List.take_of_length_le (by omega), List.drop_eq_nil_of_le (by rw [List.length_append, hl]; omega), List.append_nil]
      congr 1
      · exact flatMap_congr' _ _ _ (fun j hj => by simp at hj; simp [upAt, show ¬ j = i by omega])
      · simp [upAt]
    · have ih := seg_put cs i x hx n (by omega)
      have hle := offs_le cs (show i < n by omega)
      rw [List.take_append_of_le_length (by omega), List.drop_append_of_le_length (by omega), ← List.append_assoc, ih]
      congr 1
      simp [upAt, show ¬ n = i by omega]

theorem foldl_set : ∀ (l : List Value) (off j : Nat) (cells : Array Value), off + j + l.length ≤ cells.size →
    ((l.zipIdx j).foldl (fun cs p => cs.setIfInBounds (off + p.2) p.1) cells).toList = cells.toList.take (off + j) ++ l ++ cells.toList.drop (off + j + l.length)
  | [], off, j, cells, _ => by simp
  | v :: l, off, j, cells, h => by
    simp only [List.zipIdx_cons, List.foldl_cons]
    rw [foldl_set l off (j + 1) _ (by simp at h ⊢; omega)]
    simp only [List.length_cons] at h
    have hl : cells.toList.length = cells.size := Array.length_toList
    have e1 : ((cells.setIfInBounds (off + j) v).toList).take (off + (j + 1)) = cells.toList.take (off + j) ++ [v] := by
      rw [Array.toList_setIfInBounds, ← Nat.add_assoc, List.take_succ_eq_append_getElem (by simp; omega), List.take_set_of_le (Nat.le_refl _)]
      simp
    have e2 : ((cells.setIfInBounds (off + j) v).toList).drop (off + (j + 1) + l.length) = cells.toList.drop (off + j + (l.length + 1)) := by
      rw [Array.toList_setIfInBounds, List.drop_set_of_lt (by omega)]
      congr 1; omega
    rw [e1, e2]
    simp [List.append_assoc]

/-- what 'fill' lays -/
theorem fill_flat (place : Nat → Option (Nat × Nat)) (n : Nat) : ∀ (parts : List (Nat × Value)) (cs : Nat → List Value) (cells : Array Value), cells.toList = (List.range n).flatMap cs →
    (∀ j, j < n → place j = some (offs cs j, (cs j).length)) → (∀ p ∈ parts, p.1 < n ∧ p.2.cells.size = (cs p.1).length) →
    ∃ cells', Instr.fill place cells parts = some cells' ∧ cells'.toList = (List.range n).flatMap (parts.foldl (fun f p => upAt f p.1 p.2.cells.toList) cs)
  | [], cs, cells, h, _, _ => ⟨cells, rfl, h⟩
  | (i, v) :: parts, cs, cells, h, hp, hq => by
    obtain ⟨hi, hsz⟩ := hq (i, v) (by simp)
    simp only at hi hsz
    have hlen : cells.size = offs cs n := by rw [← Array.length_toList, h, flat_len]
    have hle := offs_le cs hi
    have hx : v.cells.toList.length = (cs i).length := by simpa using hsz
    unfold Instr.fill
    rw [hp i hi]
    simp only
    have hcond : ¬ (v.cells.size ≠ (cs i).length ∨ offs cs i + v.cells.size > cells.size) := by
      intro h'
      rcases h' with h' | h'
      · exact h' hsz
      · omega
    have hcond' : (v.cells.size ≠ (cs i).length || decide (offs cs i + v.cells.size > cells.size)) = false := by
      simp only [Bool.or_eq_false_iff, decide_eq_false_iff_not]
      exact ⟨fun h' => hcond (.inl h'), fun h' => hcond (.inr h')⟩
    simp only [hcond', Bool.false_eq_true, if_false]
    have hoffs : ∀ j, j < n → offs (upAt cs i v.cells.toList) j = offs cs j := by
      intro j _
      unfold offs
      congr 1
      apply List.map_congr_left
      intro k _
      by_cases e : k = i
      · subst e; simp [upAt, hsz]
      · simp [upAt, e]
    have hle2 : ∀ j, (upAt cs i v.cells.toList j).length = (cs j).length := by
      intro j
      by_cases e : j = i
      · subst e; simp [upAt, hsz]
      · simp [upAt, e]
    have hfl : (v.cells.zipIdx.foldl (fun cs' p => cs'.setIfInBounds (offs cs i + p.2) p.1) cells).toList = (List.range n).flatMap (upAt cs i v.cells.toList) := by
      have := foldl_set v.cells.toList (offs cs i) 0 cells (by rw [hx]; omega)
      rw [← Array.foldl_toList, Array.toList_zipIdx, this, Nat.add_zero, h]
      exact seg_put cs i _ hx n hi
    have := fill_flat place n parts (upAt cs i v.cells.toList) _ hfl (fun j hj => by rw [hp j hj, hoffs j hj, hle2]) (fun p hp' => by
      obtain ⟨h1, h2⟩ := hq p (by simp [hp'])
      exact ⟨h1, by rw [h2, hle2]⟩)
    exact this

theorem Rep.cellsOf {H : View} {t : Nat} {cs : List Value} {u : U} (r : Rep C H t cs u) {v : Value} (hv : IsVal C t v cs) : v.cells.toList = cs := by
  by_cases h : ∃ fs, C.te t = some (.st fs)
  · obtain ⟨fs, h⟩ := h
    simp only [IsVal, h] at hv
    subst hv
    simp [Value.cells]
  · obtain ⟨v', h1, h2⟩ := r.one (fun fs hf => h ⟨fs, hf⟩)
    have : cs = [v] := by
      unfold IsVal at hv
      split at hv
      · rename_i fs hf; exact (h ⟨fs, hf⟩).elim
      · exact hv
    rw [this] at h1
    cases h1
    rw [this, h2]
theorem nth_setUs : ∀ (l : List U) (i j : Nat) (u : U), U.nth (setUs l i u) j = if j = i ∧ i < l.length then u else U.nth l j
  | [], i, j, u => by simp [setUs, U.nth]
  | x :: l, 0, j, u => by cases j <;> simp [setUs, U.nth]
  | x :: l, i + 1, j, u => by cases j <;> simp [setUs, U.nth, nth_setUs l i]
theorem len_setUs : ∀ (l : List U) (i : Nat) (u : U), (setUs l i u).length = l.length
  | [], _, _ => rfl
  | _ :: _, 0, _ => rfl
  | _ :: l, i + 1, u => by simp [setUs, len_setUs l i u]
theorem len_fillU : ∀ (ps : List (Nat × U)) (l : List U), (fillU l ps).length = l.length
  | [], _ => rfl
  | (i, u) :: ps, l => by simp [fillU, len_fillU ps, len_setUs]

/-- parts that are laid, told on both sides -/
theorem fill_rep {H : View} (ty : Nat → Nat) (n : Nat) : ∀ (ps : List (Nat × Value × U)) (cs : Nat → List Value) (l : List U), l.length = n → (∀ j, j < n → Rep C H (ty j) (cs j) (U.nth l j)) →
    (∀ p ∈ ps, p.1 < n ∧ Rep C H (ty p.1) p.2.1.cells.toList p.2.2) →
    ∀ j, j < n → Rep C H (ty j) ((ps.map fun p => (p.1, p.2.1)).foldl (fun f p => upAt f p.1 p.2.cells.toList) cs j) (U.nth (fillU l (ps.map fun p => (p.1, p.2.2))) j)
  | [], cs, l, hl, h, _ => h
  | (i, v, u) :: ps, cs, l, hl, h, hp => by
    obtain ⟨h1, h2⟩ := hp (i, v, u) (by simp)
    simp only [List.map_cons, List.foldl_cons, fillU]
    refine fill_rep ty n ps _ _ (by rw [len_setUs, hl]) (fun j hj => ?_) (fun p hq => hp p (by simp [hq]))
    rw [nth_setUs]
    by_cases e : j = i
    · subst e
      simp only [upAt, if_true, hl, hj, and_self]
      exact h2
    · simp only [upAt, e, if_false, false_and]
      exact h j hj

theorem run_places (ok : CtxOk P C) {fs : List Nat} {t : Nat} (ht : C.te t = some (.st fs)) (w : World) : ∀ (fds : List Field), (∀ fd ∈ fds, fd.type ∈ fs) →
    (fds.mapM (fun (f : Field) => do pure (f.offset, ← Go.sizeOf f.type) : Field → Sem (Nat × Nat))).run P w = .ok (fds.map fun f => (f.offset, C.sz f.type)) w
  | [], _ => by simp
  | f :: fds, h => by
    obtain ⟨ty, h1, h2⟩ := ok.fields t fs f.type ht (h f (by simp))
    have ih := run_places ok ht w fds (fun fd hfd => h fd (by simp [hfd]))
    rw [List.mapM_cons]
    simp only [Sem.run_bind, ok.sizeOf h1 h2, Result.andThen_ok, Sem.run_pure, ih, List.map_cons]

theorem flats_get : ∀ {xs : List AV} {us : List U}, flats xs = some us → us.length = xs.length ∧ ∀ (i : Nat) x, xs[i]? = some x → ∃ u, us[i]? = some u ∧ x.flat = some u
  | [], us, h => by simp [flats] at h; subst h; simp
  | x :: xs, us, h => by
    simp only [flats] at h
    cases hx : x.flat with
    | none => simp [hx] at h
    | some u =>
      cases hxs : flats xs with
      | none => simp [hx, hxs] at h
      | some us' =>
        simp [hx, hxs] at h; subst h
        obtain ⟨h1, h2⟩ := flats_get hxs
        refine ⟨by simp [h1], fun i y hy => ?_⟩
        cases i with
        | zero => simp at hy; subst hy; exact ⟨u, rfl, hx⟩
        | succ i => simpa using h2 i y (by simpa using hy)

/-- the parts of a value, told on both sides -/
theorem parts_sound {H : View} {ι : Own} {sto : Sto} {tm : Nat → Value} {a : Act} {ev : Operand → AV} (hev : ∀ x, RepS C H ι sto tm (ev x) (a.eval x)) (ty : Nat → Nat) (n : Nat) :
    ∀ (ps : List (Nat × Operand)) (us : List U), flats (ps.map fun p => ev p.2) = some us → (ps.all fun p => decide (p.1 < n) && fitsT C (ty p.1) (ev p.2)) = true →
    ∃ qs : List (Nat × Value × U), qs.map (fun p => (p.1, p.2.1)) = ps.map (fun p => (p.1, a.eval p.2)) ∧ qs.map (fun p => (p.1, p.2.2)) = (ps.map (·.1)).zip us ∧
      ∀ p ∈ qs, p.1 < n ∧ Rep C H (ty p.1) p.2.1.cells.toList p.2.2
  | [], us, h, _ => ⟨[], by simp [flats] at h; subst h; simp⟩
  | (i, o) :: ps, us, h, hc => by
    simp only [List.map_cons, flats] at h
    simp only [List.all_cons, Bool.and_eq_true, decide_eq_true_eq] at hc
    cases hx : (ev o).flat with
    | none => simp [hx] at h
    | some u =>
      cases hxs : flats (ps.map fun p => ev p.2) with
      | none => simp [hx, hxs] at h
      | some us' =>
        simp [hx, hxs] at h; subst h
        obtain ⟨qs, e1, e2, e3⟩ := parts_sound hev ty n ps us' hxs (by simpa using hc.2)
        have hr : RepA C H ι sto (ev o) (a.eval o) := by
          have := hev o
          cases hcv : isCv (ev o) with
          | false => rwa [RepS.eq hcv] at this
          | true => revert hx hcv; cases ev o <;> simp [isCv, AV.flat]
        obtain ⟨cs, k1, k2⟩ := hr.flat hc.1.2 hx
        refine ⟨(i, a.eval o, u) :: qs, by simp [e1], by simp [e2], ?_⟩
        intro p hp
        simp only [List.mem_cons] at hp
        rcases hp with rfl | hp
        · exact ⟨hc.1.1, by rw [k2.cellsOf k1]; exact k2⟩
        · exact e3 p hp

end Go.Ab
