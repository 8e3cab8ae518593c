/- What is shown: each letter at most once. -/
import Derived.Test.YtbppeodcnkghpaaCPh
set_option linter.unusedVariables false
set_option linter.unusedSimpArgs false
section
namespace Go.Proofs.Ytbppeodcnkghpaa
open Go.Ab
set_option linter.unusedVariables false
set_option linter.unusedSimpArgs false
set_option maxRecDepth 100000

/-- the parent of the letter at a place -/
def parI (l : List Lt) (i : Nat) : Int := match l[i]? with
  | some x => parOf l x
  | none => -2
def kids (l : List Lt) (p : Int) : List Nat := (ordL l).filter fun i => decide (parI l i = p)
/-- the letters below `p`, and their depths -/
def showL (l : List Lt) : Nat → Int → Int → List (Nat × Int)
  | 0, _, _ => []
  | f + 1, p, d => (kids l p).flatMap fun i => (i, d) :: showL l f (i : Nat) (d + 1)
theorem ordL_perm (l : List Lt) : (ordL l).Perm (List.range l.length) := List.mergeSort_perm _ _
theorem ordL_nodup (l : List Lt) : (ordL l).Nodup := (ordL_perm l).nodup_iff.2 List.nodup_range
theorem mem_ordL {l : List Lt} {i : Nat} : i ∈ ordL l ↔ i < l.length := by rw [(ordL_perm l).mem_iff, List.mem_range]
theorem mem_kids {l : List Lt} {p : Int} {i : Nat} : i ∈ kids l p ↔ i < l.length ∧ parI l i = p := by
  simp [kids, mem_ordL]
/-- a parent is earlier -/
theorem parN_earl {l : List Lt} {x : Lt} : ∀ n j, parN l x n = some j → ∃ y, l[j]? = some y ∧ earl y x = true
  | 0, j, h => by cases h
  | n + 1, j, h => by
    simp only [parN] at h
    cases hb : x.refs[n]? with
    | none => rw [hb] at h; exact parN_earl n j h
    | some b =>
      rw [hb] at h
      cases ho : oneP l x b with
      | none => simp only [ho] at h; exact parN_earl n j h
      | some j' =>
        simp only [ho] at h
        cases h
        unfold oneP at ho
        cases hf : l.findIdx? (same b) with
        | none => rw [hf] at ho; cases ho
        | some j2 =>
          rw [hf] at ho
          cases hy : l[j2]? with
          | none => simp only [hy] at ho; cases ho
          | some y =>
            simp only [hy] at ho
            cases he : earl y x with
            | false => rw [he] at ho; cases ho
            | true => rw [he] at ho; cases ho; exact ⟨y, hy, he⟩
theorem parI_earl {l : List Lt} {i j : Nat} (h : parI l i = (j : Int)) : ∃ x y, l[i]? = some x ∧ l[j]? = some y ∧ earl y x = true := by
  unfold parI at h
  cases hx : l[i]? with
  | none => rw [hx] at h; simp only at h; omega
  | some x =>
    rw [hx] at h
    simp only [parOf] at h
    cases hp : parN l x x.refs.length with
    | none => rw [hp] at h; simp only [pI] at h; omega
    | some j' =>
      rw [hp] at h
      simp only [pI] at h
      have : j' = j := by omega
      subst this
      obtain ⟨y, h1, h2⟩ := parN_earl _ _ hp
      exact ⟨x, y, rfl, h1, h2⟩
/-- `j` is `i` or below it -/
inductive Bel (l : List Lt) (i : Nat) : Nat → Prop
  | refl : Bel l i i
  | step {j k : Nat} : Bel l i j → parI l k = (j : Int) → Bel l i k
theorem Bel.earl {l : List Lt} {i j : Nat} (h : Bel l i j) : i = j ∨ ∃ x y, l[i]? = some x ∧ l[j]? = some y ∧ earl x y = true := by
  induction h with
  | refl => exact .inl rfl
  | step _ hp ih =>
    obtain ⟨x, y, h1, h2, h3⟩ := parI_earl hp
    rcases ih with rfl | ⟨x', y', a1, a2, a3⟩
    · exact .inr ⟨y, x, h2, h1, h3⟩
    · rw [h2] at a2; cases a2
      exact .inr ⟨x', x, a1, h1, earl_trans a3 h3⟩
theorem Bel.of_par {l : List Lt} {i k : Nat} {p : Int} (h : Bel l i k) (hk : parI l k = p) : i = k ∨ ∃ j : Nat, p = (j : Int) ∧ Bel l i j := by
  cases h with
  | refl => exact .inl rfl
  | step h hp => exact .inr ⟨_, by rw [← hk, hp], h⟩
/-- of two that have the same letter below them, one is below the other -/
theorem Bel.lin {l : List Lt} {i i' j : Nat} (h : Bel l i j) (h' : Bel l i' j) : Bel l i i' ∨ Bel l i' i := by
  induction h with
  | refl => exact .inr h'
  | step h hp ih =>
    rcases h'.of_par hp with rfl | ⟨j', e, b⟩
    · exact .inl (.step h hp)
    · have : _ = j' := Int.ofNat.inj e
      subst this
      exact ih b
theorem Bel.sib {l : List Lt} {i i' : Nat} (h : Bel l i i') (e : parI l i = parI l i') : i = i' := by
  rcases h.of_par (p := parI l i) e.symm with h | ⟨j, e2, b⟩
  · exact h
  · obtain ⟨x, y, h1, h2, h3⟩ := parI_earl e2
    rcases b.earl with rfl | ⟨x', y', a1, a2, a3⟩
    · rw [h1] at h2; cases h2; rw [earl_irr] at h3; cases h3
    · rw [h1] at a1; cases a1
      rw [h2] at a2; cases a2
      have := earl_trans a3 h3
      rw [earl_irr] at this; cases this
theorem showL_bel {l : List Lt} : ∀ f p d j e, (j, e) ∈ showL l f p d → ∃ i, i ∈ kids l p ∧ Bel l i j
  | 0, _, _, _, _, h => by cases h
  | f + 1, p, d, j, e, h => by
    simp only [showL, List.mem_flatMap, List.mem_cons] at h
    obtain ⟨i, hi, h | h⟩ := h
    · cases h; exact ⟨_, hi, .refl⟩
    · obtain ⟨k, hk, b⟩ := showL_bel f _ _ _ _ h
      refine ⟨i, hi, ?_⟩
      have hp := (mem_kids.1 hk).2
      clear h
      induction b with
      | refl => exact .step .refl hp
      | step _ q ih => exact .step (ih) q
theorem kids_nodup (l : List Lt) (p : Int) : (kids l p).Nodup := (ordL_nodup l).filter _
theorem showL_nodup {l : List Lt} : ∀ f p d, ((showL l f p d).map (·.1)).Nodup
  | 0, _, _ => List.nodup_nil
  | f + 1, p, d => by
    simp only [showL, List.map_flatMap, List.map_cons]
    unfold List.Nodup
    rw [List.pairwise_flatMap]
    constructor
    · intro i hi
      show List.Nodup _
      rw [List.nodup_cons]
      refine ⟨fun h => ?_, showL_nodup f _ _⟩
      rw [List.mem_map] at h
      obtain ⟨⟨j, e⟩, h, hj⟩ := h
      have hj : j = i := hj
      subst hj
      obtain ⟨k, hk, b⟩ := showL_bel f _ _ _ _ h
      obtain ⟨x, y, h1, h2, h3⟩ := parI_earl (mem_kids.1 hk).2
      rcases b.earl with rfl | ⟨x', y', a1, a2, a3⟩
      · rw [h1] at h2; cases h2; rw [earl_irr] at h3; cases h3
      · rw [h1] at a1; cases a1
        rw [h2] at a2; cases a2
        have := earl_trans a3 h3
        rw [earl_irr] at this; cases this
    · refine (kids_nodup l p).imp_of_mem fun {i i'} hi hi' hne => ?_
      have key : ∀ {i j}, j ∈ i :: (showL l f (i : Nat) (d + 1)).map (·.1) → Bel l i j := by
        intro i j h
        rcases List.mem_cons.1 h with rfl | hq
        · exact .refl
        · clear h
          rw [List.mem_map] at hq
          obtain ⟨⟨j', e⟩, h, hj⟩ := hq
          have hj : j' = j := hj
          subst hj
          obtain ⟨k, hk, b⟩ := showL_bel f _ _ _ _ h
          have hp := (mem_kids.1 hk).2
          clear h hj
          induction b with
          | refl => exact .step .refl hp
          | step _ q ih => exact .step ih q
      have e : parI l i = parI l i' := by rw [(mem_kids.1 hi).2, (mem_kids.1 hi').2]
      intro j h j' h' ej
      subst ej
      rcases (key h).lin (key h') with b | b
      · exact hne (b.sib e)
      · exact hne (b.sib e.symm).symm
theorem nodup_sub : ∀ (a m : List Nat), a.Nodup → a ⊆ m → a.length ≤ m.length
  | [], m, _, _ => Nat.zero_le _
  | x :: a, m, hn, hs => by
    rw [List.nodup_cons] at hn
    have hx : x ∈ m := hs (List.mem_cons_self ..)
    have := nodup_sub a (m.erase x) hn.2 (fun y hy => by
      have hne : y ≠ x := fun e => hn.1 (e ▸ hy)
      exact (List.mem_erase_of_ne hne).2 (hs (List.mem_cons_of_mem _ hy)))
    rw [List.length_erase_of_mem hx] at this
    have : 0 < m.length := List.length_pos_of_mem hx
    simp only [List.length_cons]
    omega
theorem showL_len {l : List Lt} (f : Nat) (p d : Int) : (showL l f p d).length ≤ l.length := by
  have h := showL_nodup (l := l) f p d
  have hs : (showL l f p d).map (·.1) ⊆ List.range l.length := by
    intro j h
    rw [List.mem_map] at h
    obtain ⟨⟨j', e⟩, h, hj⟩ := h
    have hj : j' = j := hj
    subst hj
    obtain ⟨k, hk, b⟩ := showL_bel f _ _ _ _ h
    rw [List.mem_range]
    rcases b.earl with rfl | ⟨x', y', a1, a2, a3⟩
    · exact (mem_kids.1 hk).1
    · exact (List.getElem?_eq_some_iff.1 a2).1
  have := nodup_sub _ _ h hs
  simpa using this
end Go.Proofs.Ytbppeodcnkghpaa
end
section
namespace Go.Proofs.Ytbppeodcnkghpaa
open Go.Ab
set_option linter.unusedVariables false
set_option linter.unusedSimpArgs false
set_option maxRecDepth 100000

def firsts (s : List (Nat × Int)) : List U := s.map fun q => .I (q.1 : Nat)
def seconds (s : List (Nat × Int)) : List U := s.map fun q => .I q.2
/-- the letters that are later than the one at `p` -/
def laterN (l : List Lt) (p : Int) : Nat := (l.filter fun x => match l[p.toNat]? with | some y => decide (p < 0) || earl y x | none => true).length
def oU (l : List Lt) : U := .ofL false ((ordL l).map fun i => .I (i : Nat))
def pU (l : List Lt) : U := .ofL false (l.map fun x => .I (parOf l x))
/-- what the closure is given -/
def inX (l : List Lt) (p d : Int) (a b : List U) (z4 z5 : Bool) : List U := [.ofL false [.I p, .I d, oU l, pU l, .B z4, .B z5, oU l, pU l], .ofL false [.ofL false a, .ofL false b]]
def outX (l : List Lt) (a b : List U) (z4 z5 : Bool) : U := .ofL false [.ofL false [], .ofL false [.B z4, .B z5, oU l, pU l], .ofL false [.ofL false a, .ofL false b]]
def restL (l : List Lt) (f : Nat) (p d : Int) (r : List Nat) : List (Nat × Int) := r.flatMap fun i => bif decide (parI l i = p) then (i, d) :: showL l f (i : Nat) (d + 1) else []
theorem restL_eq (l : List Lt) (f : Nat) (p d : Int) : restL l f p d (ordL l) = showL l (f + 1) p d := by
  have key : ∀ (F : Nat → List (Nat × Int)) (r : List Nat), r.flatMap (fun i => bif decide (parI l i = p) then F i else []) = (r.filter fun i => decide (parI l i = p)).flatMap F := by
    intro F r
    induction r with
    | nil => rfl
    | cons i r ih =>
      rw [List.flatMap_cons, ih, List.filter_cons]
      cases decide (parI l i = p) <;> rfl
  exact key (fun i => (i, d) :: showL l f (i : Nat) (d + 1)) (ordL l)
theorem l21' {l : List Lt} (hl : l.length ≤ 1000000) (f : Nat) (p d : Int) (hd0 : 0 ≤ d) (hd : d ≤ 1000000000) (z4 z5 : Bool)
    (H : ∀ (i : Nat) (a b : List U), i < l.length → parI l i = p → a.length + (showL l f (i : Nat) (d + 1)).length ≤ 17592186044416 → b.length + (showL l f (i : Nat) (d + 1)).length ≤ 17592186044416 → Fi K 21 (inX l (i : Nat) (d + 1) a b z4 z5) = some (outX l (a ++ firsts (showL l f (i : Nat) (d + 1))) (b ++ seconds (showL l f (i : Nat) (d + 1))) z4 z5)) :
    ∀ r k, (ordL l).drop k = r → ∀ a b : List U, a.length + (restL l f p d r).length ≤ 17592186044416 → b.length + (restL l f p d r).length ≤ 17592186044416 →
    Lp K 21 0 ⟨[.I p, .I d, pU l, .B z4, .B z5, oU l, pU l, oU l, .I (((ordL l).length : Nat) : Int), .I (k : Nat)], [a, b]⟩ = some (.brk ⟨[.B z4, .B z5, oU l, pU l], [a ++ firsts (restL l f p d r), b ++ seconds (restL l f p d r)]⟩)
  | [], k, e, a, b, _, _ => by
    have h0 := drop_nil_ge e
    have h1 : ¬ ((k : Int) < (((ordL l).length : Nat) : Int)) := by omega
    refine l21_0 _ _ _ _ _ _ _ _ _ _ _ _ ?_
    simp only [h1, decide_false, cond_false]
    simp [restL, firsts, seconds]
  | i :: r, k, e, a, b, ha, hb => by
    have kk := Cur.of e
    have hlt := kk.lt
    have hi : i < l.length := mem_ordL.1 (List.mem_of_getElem? kk.elem)
    have hx : l[i]? = some l[i] := List.getElem?_eq_getElem hi
    have hpi : parI l i = parOf l l[i] := by unfold parI; rw [hx]
    have lo : (oU l).len = (ordL l).length := by simp [oU]
    have lp : (pU l).len = l.length := by simp [pU]
    have go : (oU l).get k = .I (i : Nat) := by
      show (U.ofL false _).get k = _
      rw [get_ofL']; exact nth_at (by simp [kk.elem])
    have gp : (pU l).get i = .I (parI l i) := by
      show (U.ofL false _).get i = _
      rw [get_ofL']; exact nth_at (by simp [hx, hpi])
    have hn : (ordL l).length = l.length := by rw [(ordL_perm l).length_eq, List.length_range]
    have h1 : ((k : Int) < (((ordL l).length : Nat) : Int)) := by omega
    have h2 : (0 : Int) ≤ (k : Int) := by omega
    have h3 : (0 : Int) ≤ (i : Int) := by omega
    have h4 : (i : Int) < ((l.length : Nat) : Int) := by omega
    have hr : restL l f p d (i :: r) = (bif decide (parI l i = p) then (i, d) :: showL l f (i : Nat) (d + 1) else []) ++ restL l f p d r := by unfold restL; rw [List.flatMap_cons]
    refine l21_0 _ _ _ _ _ _ _ _ _ _ _ _ ?_
    simp only [h1, h2, lo, go, toI_I, h3, h4, lp, gp, decide_true, Bool.and_self, cond_true, Int.toNat_natCast]
    by_cases hp : parI l i = p
    · rw [hr, decide_eq_true hp] at ha hb
      simp only [cond_true, List.length_append, List.length_cons] at ha hb
      have ih := l21' hl f p d hd0 hd z4 z5 H r (k + 1) kk.next (a ++ [.I (i : Nat)] ++ firsts (showL l f (i : Nat) (d + 1))) (b ++ [.I d] ++ seconds (showL l f (i : Nat) (d + 1))) (by simp [firsts]; omega) (by simp [seconds]; omega)
      have c1 : a.length + 1 ≤ 17592186044416 := by omega
      have c2 : b.length + 1 ≤ 17592186044416 := by omega
      have hh := H i (a ++ [.I (i : Nat)]) (b ++ [.I d]) hi hp (by simp; omega) (by simp; omega)
      unfold inX at hh
      rw [hr, decide_eq_true hp]
      simp only [c1, c2, decide_true, cond_true]
      rw [w64 (by omega) (by omega), hh]
      simp only [Option.bind_some, loK_some_brk, outX, get_ofL', toL_ofL', nth_zero, nth_succ, nthL, List.map_cons, List.map_nil, toI_I, toB_B]
      rw [w64s (by omega)]
      have f1 : a ++ firsts ((i, d) :: showL l f (i : Nat) (d + 1) ++ restL l f p d r) = a ++ [U.I (i : Nat)] ++ firsts (showL l f (i : Nat) (d + 1)) ++ firsts (restL l f p d r) := by simp [firsts]
      have f2 : b ++ seconds ((i, d) :: showL l f (i : Nat) (d + 1) ++ restL l f p d r) = b ++ [U.I d] ++ seconds (showL l f (i : Nat) (d + 1)) ++ seconds (restL l f p d r) := by simp [seconds]
      rw [f1, f2]
      exact ih
    · rw [hr, decide_eq_false hp] at ha hb ⊢
      simp only [cond_false, List.nil_append] at ha hb ⊢
      have ih := l21' hl f p d hd0 hd z4 z5 H r (k + 1) kk.next a b ha hb
      simp only [loK_some_brk, nth_zero, nth_succ, nthL, toI_I, toB_B]
      rw [w64s (by omega)]
      exact ih
theorem filter_le {P Q : Lt → Bool} : ∀ l : List Lt, (∀ x ∈ l, P x = true → Q x = true) → (l.filter P).length ≤ (l.filter Q).length
  | [], _ => Nat.le_refl _
  | y :: l, h => by
    have ih := filter_le l fun x hx => h x (List.mem_cons_of_mem _ hx)
    have hy := h y (List.mem_cons_self ..)
    cases hp : P y with
    | true => rw [List.filter_cons, List.filter_cons, hp, hy hp]; simpa using ih
    | false =>
      cases hq : Q y with
      | true => rw [List.filter_cons, List.filter_cons, hp, hq]; simp; omega
      | false => rw [List.filter_cons, List.filter_cons, hp, hq]; simpa using ih
theorem filter_lt {P Q : Lt → Bool} : ∀ l : List Lt, (∀ x ∈ l, P x = true → Q x = true) → (∃ x ∈ l, Q x = true ∧ P x = false) → (l.filter P).length < (l.filter Q).length
  | [], _, h => by obtain ⟨x, hx, _⟩ := h; cases hx
  | y :: l, h, hw => by
    have le := filter_le l fun x hx => h x (List.mem_cons_of_mem _ hx)
    have hy := h y (List.mem_cons_self ..)
    obtain ⟨x, hx, hq, hp⟩ := hw
    rcases List.mem_cons.1 hx with rfl | hx
    · rw [List.filter_cons, List.filter_cons, hp, hq]; simp; omega
    · have ih := filter_lt l (fun x hx => h x (List.mem_cons_of_mem _ hx)) ⟨x, hx, hq, hp⟩
      cases hp : P y with
      | true => rw [List.filter_cons, List.filter_cons, hp, hy hp]; simpa using ih
      | false =>
        cases hq : Q y with
        | true => rw [List.filter_cons, List.filter_cons, hp, hq]; simp; omega
        | false => rw [List.filter_cons, List.filter_cons, hp, hq]; simpa using ih
theorem laterN_lt {l : List Lt} {i : Nat} {p : Int} (hi : i < l.length) (hp : parI l i = p) : laterN l (i : Nat) < laterN l p := by
  have hx : l[i]? = some l[i] := List.getElem?_eq_getElem hi
  have h0 : ¬ ((i : Int) < 0) := by omega
  unfold laterN
  simp only [Int.toNat_natCast, hx, h0, decide_false, Bool.false_or]
  by_cases hp0 : p < 0
  · simp only [hp0, decide_true, Bool.true_or]
    refine filter_lt l (fun x _ _ => ?_) ⟨l[i], List.getElem_mem hi, ?_, earl_irr _⟩
    · cases l[p.toNat]? <;> rfl
    · cases l[p.toNat]? <;> rfl
  · obtain ⟨j, rfl⟩ := Int.eq_ofNat_of_zero_le (by omega : 0 ≤ p)
    obtain ⟨x, y, h1, h2, h3⟩ := parI_earl hp
    rw [hx] at h1; cases h1
    simp only [Int.toNat_natCast, h2, hp0, decide_false, Bool.false_or]
    exact filter_lt l (fun x _ h => earl_trans h3 h) ⟨l[i], List.getElem_mem hi, h3, earl_irr _⟩
theorem laterN_le (l : List Lt) (p : Int) : laterN l p ≤ l.length := List.length_filter_le ..
theorem s21 {l : List Lt} (hl : l.length ≤ 1000000) (z4 z5 : Bool) : ∀ (f : Nat) (p d : Int) (a b : List U), 0 ≤ d → d + f ≤ 1000000000 → laterN l p < f → a.length + (showL l f p d).length ≤ 17592186044416 → b.length + (showL l f p d).length ≤ 17592186044416 →
    Fi K 21 (inX l p d a b z4 z5) = some (outX l (a ++ firsts (showL l f p d)) (b ++ seconds (showL l f p d)) z4 z5)
  | 0, p, d, a, b, _, _, h, _, _ => by omega
  | f + 1, p, d, a, b, hd0, hd, hf, ha, hb => by
    rw [← restL_eq] at ha hb ⊢
    have hl21 := l21' hl f p d hd0 (by omega) z4 z5 (fun i a b hi hp ha hb => s21 hl z4 z5 f _ _ a b (by omega) (by omega) (by have := laterN_lt hi hp; omega) ha hb) (ordL l) 0 rfl a b ha hb
    rw [show (U.I ((0 : Nat) : Int)) = U.I 0 from rfl] at hl21
    unfold inX
    refine e21 _ _ _ _ _ _ _ _ _ _ ?_
    have lo : (oU l).len = (ordL l).length := by simp [oU]
    rw [lo, toL_ofL', toL_ofL', hl21]
    rfl
end Go.Proofs.Ytbppeodcnkghpaa
end
section
namespace Go.Proofs.Ytbppeodcnkghpaa
open Go.Ab
set_option linter.unusedVariables false
set_option linter.unusedSimpArgs false
set_option maxRecDepth 100000

def ltI (l : List Lt) (i j : Nat) : Bool := match l[i]?, l[j]? with
  | some x, some y => earl x y
  | _, _ => false
/-- what may be shown next -/
def candB (l : List Lt) (p last : Int) (j : Nat) : Bool := decide (parI l j = p) && (decide (last < 0) || ltI l last.toNat j)
/-- the earliest of those -/
def bestF (l : List Lt) (p last : Int) : List Lt → Nat → Int → Int
  | [], _, nx => nx
  | _ :: r, i, nx => bestF l p last r (i + 1) (bif candB l p last i && (decide (nx < 0) || ltI l i nx.toNat) then (i : Int) else nx)
def Pl (l : List Lt) (n : Int) : Prop := n = -1 ∨ ∃ j : Nat, n = (j : Int) ∧ j < l.length
theorem s24I {u : U} {l : List Lt} (hu : LtsU u l) {i j : Nat} (hi : i < l.length) (hj : j < l.length) : Fi K 24 [u.get i, u.get j] = some (.B (ltI l i j)) := by
  have hx : l[i]? = some l[i] := List.getElem?_eq_getElem hi
  have hy : l[j]? = some l[j] := List.getElem?_eq_getElem hj
  rw [s24 (hu.get i _ hx) (hu.get j _ hy)]
  simp only [ltI, hx, hy]
theorem l13_2' {u : U} {l : List Lt} (hu : LtsU u l) (hl : l.length ≤ 1000000) (hU : Uni l) (hr : ∀ x ∈ l, x.refs.length ≤ 1000000) (p d last : Int) (hlast : Pl l last) (z8 z9 : Bool) (x8 x9 : List U) : ∀ r i, l.drop i = r → ∀ nx, Pl l nx →
    Lp K 13 2 ⟨[u, .I p, .I d, .B z8, .B z9, .I last, .I nx, .I (i : Nat)], [x8, x9]⟩ = some (.brk ⟨[u, .I p, .I d, .B z8, .B z9, .I (bestF l p last r i nx)], [x8, x9]⟩)
  | [], i, e, nx, hnx => by
    have h0 := drop_nil_ge e
    have h1 : ¬ ((i : Int) < (l.length : Int)) := by omega
    refine l13_2 _ _ _ _ _ _ _ _ _ _ ?_
    simp only [hu.len, h1, decide_false, cond_false]
    rfl
  | y :: r, i, e, nx, hnx => by
    have k := Cur.of e
    have hi := k.lt
    have h1 : ((i : Int) < (l.length : Int)) := by omega
    have h2 : (0 : Int) ≤ (i : Int) := by omega
    have h12 := s12 hu hl k.elem (hr y (List.mem_of_getElem? k.elem))
    rw [par_eq hU y] at h12
    have hpar : parI l i = parOf l y := by unfold parI; rw [k.elem]
    have ih := l13_2' hu hl hU hr p d last hlast z8 z9 x8 x9 r (i + 1) k.next (bif candB l p last i && (decide (nx < 0) || ltI l i nx.toNat) then (i : Int) else nx) (by
      cases (candB l p last i && (decide (nx < 0) || ltI l i nx.toNat)) with
      | true => exact .inr ⟨i, rfl, hi⟩
      | false => exact hnx)
    have ei : bestF l p last (y :: r) i nx = bestF l p last r (i + 1) (bif candB l p last i && (decide (nx < 0) || ltI l i nx.toNat) then (i : Int) else nx) := rfl
    refine l13_2 _ _ _ _ _ _ _ _ _ _ ?_
    rw [ei]
    rw [← hpar] at h12
    simp only [hu.len, h1, h2, decide_true, Bool.and_self, Bool.true_or, cond_true, h12, Option.bind_some, Int.toNat_natCast]
    have hcb : candB l p last i = (decide ((U.I (parI l i)).toI = p) && (decide (last < 0) || ltI l last.toNat i)) := rfl
    generalize decide ((U.I (parI l i)).toI = p) = P at hcb ⊢
    -- the comparison with the last one
    have q2 : (bif (P && !decide (last < 0)) then Fi K 24 [u.get last.toNat, u.get i] else some (U.I 0)).bind (fun r2 => some (P && (decide (last < 0) || r2.toB))) = some (candB l p last i) := by
      rw [hcb]
      rcases hlast with rfl | ⟨j, rfl, hj⟩
      · cases P <;> rfl
      · have h0 : ¬ ((j : Int) < 0) := by omega
        simp only [h0, decide_false, Bool.not_false, Bool.and_true, Bool.false_or, Int.toNat_natCast, s24I hu hj hi]
        cases P <;> rfl
    have g2 : ((decide ((0 : Int) ≤ last) && decide (last < ((l.length : Nat) : Int))) || !(P && !decide (last < 0))) = true := by
      rcases hlast with rfl | ⟨j, rfl, hj⟩
      · cases P <;> rfl
      · have h0 : (0 : Int) ≤ (j : Int) := by omega
        have h3 : ((j : Int) < (l.length : Int)) := by omega
        simp [h0, h3]
    simp only [g2, cond_true]
    obtain ⟨r2, e2, e2'⟩ := Option.bind_eq_some_iff.1 q2
    have e2' := Option.some.inj e2'
    rw [e2]
    simp only [Option.bind_some, e2']
    have g3 : ((decide ((0 : Int) ≤ nx) && decide (nx < ((l.length : Nat) : Int))) || !(candB l p last i && !decide (nx < 0))) = true := by
      rcases hnx with rfl | ⟨j, rfl, hj⟩
      · cases candB l p last i <;> rfl
      · have h0 : (0 : Int) ≤ (j : Int) := by omega
        have h3 : ((j : Int) < (l.length : Int)) := by omega
        simp [h0, h3]
    have q3 : (bif (candB l p last i && !decide (nx < 0)) then Fi K 24 [u.get i, u.get nx.toNat] else some (U.I 0)).bind (fun r2 => some (candB l p last i && (decide (nx < 0) || r2.toB))) = some (candB l p last i && (decide (nx < 0) || ltI l i nx.toNat)) := by
      rcases hnx with rfl | ⟨j, rfl, hj⟩
      · cases candB l p last i <;> rfl
      · have h0 : ¬ ((j : Int) < 0) := by omega
        simp only [h0, decide_false, Bool.not_false, Bool.and_true, Bool.false_or, Int.toNat_natCast, s24I hu hi hj]
        cases candB l p last i <;> rfl
    simp only [g3, cond_true]
    obtain ⟨r3, e3, e3'⟩ := Option.bind_eq_some_iff.1 q3
    have e3' := Option.some.inj e3'
    rw [e3]
    simp only [Option.bind_some, e3']
    rw [← w64s (n := i) (by omega)] at ih
    cases hc : (candB l p last i && (decide (nx < 0) || ltI l i nx.toNat)) with
    | true =>
      rw [hc] at ih
      simp only [cond_true, loK_some_brk, nth_zero, nth_succ, nthL_zero, nthL_succ, toI_I, toB_B] at ih ⊢
      exact ih
    | false =>
      rw [hc] at ih
      simp only [cond_false, loK_some_brk, nth_zero, nth_succ, nthL_zero, nthL_succ, toI_I, toB_B] at ih ⊢
      exact ih
/-- what the search has found -/
def Bst (l : List Lt) (p last : Int) (n : Nat) (nx : Int) : Prop :=
  (nx = -1 ∧ ∀ j, j < n → candB l p last j = false) ∨ ∃ i : Nat, nx = (i : Int) ∧ i < l.length ∧ candB l p last i = true ∧ ∀ j, j < n → candB l p last j = true → ltI l j i = false
theorem ltI_irr (l : List Lt) (i : Nat) : ltI l i i = false := by
  unfold ltI
  cases l[i]? with
  | none => rfl
  | some x => exact earl_irr x
theorem ltI_trans {l : List Lt} {i j k : Nat} (h1 : ltI l i j = true) (h2 : ltI l j k = true) : ltI l i k = true := by
  unfold ltI at *
  cases hi : l[i]? with
  | none => rw [hi] at h1; cases h1
  | some x =>
    cases hj : l[j]? with
    | none => rw [hi, hj] at h1; cases h1
    | some y =>
      cases hk : l[k]? with
      | none => rw [hj, hk] at h2; cases h2
      | some z =>
        rw [hi, hj] at h1
        rw [hj, hk] at h2
        exact earl_trans h1 h2
theorem ltI_total {l : List Lt} (hU : Uni l) {i j : Nat} (hi : i < l.length) (hj : j < l.length) (h1 : ltI l i j = false) (h2 : ltI l j i = false) : i = j := by
  have hx : l[i]? = some l[i] := List.getElem?_eq_getElem hi
  have hy : l[j]? = some l[j] := List.getElem?_eq_getElem hj
  simp only [ltI, hx, hy] at h1 h2
  exact uni_eq hU hx hy (earl_total h1 h2)
theorem bestF_spec {l : List Lt} (hU : Uni l) (p last : Int) : ∀ r i, l.drop i = r → ∀ nx, Bst l p last i nx → Bst l p last l.length (bestF l p last r i nx)
  | [], i, e, nx, h => by
    have h0 := drop_nil_ge e
    rcases h with ⟨h1, h2⟩ | ⟨k, h1, h2, h3, h4⟩
    · exact .inl ⟨h1, fun j hj => h2 j (by omega)⟩
    · exact .inr ⟨k, h1, h2, h3, fun j hj => h4 j (by omega)⟩
  | y :: r, i, e, nx, h => by
    have k := Cur.of e
    have hi := k.lt
    refine bestF_spec hU p last r (i + 1) k.next _ ?_
    cases hc : candB l p last i with
    | false =>
      simp only [Bool.false_and, cond_false]
      rcases h with ⟨h1, h2⟩ | ⟨k, h1, h2, h3, h4⟩
      · refine .inl ⟨h1, fun j hj => ?_⟩
        by_cases hji : j = i
        · subst hji; exact hc
        · exact h2 j (by omega)
      · refine .inr ⟨k, h1, h2, h3, fun j hj hcj => ?_⟩
        by_cases hji : j = i
        · subst hji; rw [hc] at hcj; cases hcj
        · exact h4 j (by omega) hcj
    | true =>
      simp only [Bool.true_and]
      rcases h with ⟨h1, h2⟩ | ⟨k, h1, h2, h3, h4⟩
      · subst h1
        refine .inr ⟨i, rfl, hi, hc, fun j hj hcj => ?_⟩
        by_cases hji : j = i
        · subst hji; exact ltI_irr _ _
        · rw [h2 j (by omega)] at hcj; cases hcj
      · subst h1
        have h0 : ¬ ((k : Int) < 0) := by omega
        simp only [h0, decide_false, Bool.false_or, Int.toNat_natCast]
        cases hlt : ltI l i k with
        | true =>
          refine .inr ⟨i, rfl, hi, hc, fun j hj hcj => ?_⟩
          by_cases hji : j = i
          · subst hji; exact ltI_irr _ _
          · have := h4 j (by omega) hcj
            cases hji2 : ltI l j i with
            | false => rfl
            | true => rw [ltI_trans hji2 hlt] at this; cases this
        | false =>
          refine .inr ⟨k, rfl, h2, h3, fun j hj hcj => ?_⟩
          by_cases hji : j = i
          · subst hji; exact hlt
          · exact h4 j (by omega) hcj
theorem bl_ntrans {a b c : Bs} (h : Op.bytesLess a c = true) : Op.bytesLess a b = true ∨ Op.bytesLess b c = true := by
  cases h1 : Op.bytesLess a b with
  | true => exact .inl rfl
  | false =>
    cases h2 : Op.bytesLess b a with
    | true => exact .inr (bl_trans _ _ _ h2 h)
    | false => rw [← bl_total _ _ h1 h2]; exact .inr h
theorem earl_ntrans {x y z : Lt} (h : earl x z = true) : earl x y = true ∨ earl y z = true := by
  simp only [earl, Bool.or_eq_true, decide_eq_true_eq, Bool.and_eq_true] at h ⊢
  by_cases h1 : x.time < y.time
  · exact .inl (.inl h1)
  by_cases h2 : y.time < z.time
  · exact .inr (.inl h2)
  rcases h with h | ⟨h, k⟩
  · omega
  · rcases bl_ntrans (b := y.id) k with k | k
    · exact .inl (.inr ⟨by omega, k⟩)
    · exact .inr (.inr ⟨by omega, k⟩)
def leA (l : List Lt) (i j : Nat) : Bool := match l[i]?, l[j]? with
  | some x, some y => !earl y x
  | none, some _ => false
  | _, none => true
theorem ordL_leA (l : List Lt) : ordL l = (List.range l.length).mergeSort (leA l) := by
  have := List.map_mergeSort (r := isLe l) (s := leA l) (f := id) (l := List.range l.length) (fun a ha b hb => by
    rw [List.mem_range] at ha hb
    have hx : l[a]? = some l[a] := List.getElem?_eq_getElem ha
    have hy : l[b]? = some l[b] := List.getElem?_eq_getElem hb
    simp only [isLe, leA, id, hx, hy])
  rw [List.map_id, List.map_id] at this
  exact this
theorem ordL_sorted {l : List Lt} (hU : Uni l) : (ordL l).Pairwise fun i j => ltI l i j = true := by
  have key : (ordL l).Pairwise fun i j => leA l i j = true := by
    rw [ordL_leA]
    refine List.pairwise_mergeSort (le := leA l) (fun a b c h1 h2 => ?_) (fun a b => ?_) _
    · unfold leA at *
      cases hc : l[c]? with
      | none => cases l[a]? <;> rfl
      | some z =>
        cases hb : l[b]? with
        | none => rw [hb, hc] at h2; cases h2
        | some y =>
          cases ha : l[a]? with
          | none => rw [ha, hb] at h1; cases h1
          | some x =>
            rw [ha, hb] at h1
            rw [hb, hc] at h2
            have h1 : (!earl y x) = true := h1
            have h2 : (!earl z y) = true := h2
            show (!earl z x) = true
            cases h3 : earl z x with
            | false => rfl
            | true =>
              rcases earl_ntrans (y := y) h3 with h | h
              · rw [h] at h2; cases h2
              · rw [h] at h1; cases h1
    · unfold leA
      cases ha : l[a]? with
      | none => cases hb : l[b]? <;> rfl
      | some x =>
        cases hb : l[b]? with
        | none => rfl
        | some y =>
          show ((!earl y x) || (!earl x y)) = true
          cases h1 : earl y x with
          | false => rfl
          | true =>
            cases h2 : earl x y with
            | false => rfl
            | true => have := earl_trans h1 h2; rw [earl_irr] at this; cases this
  have nd := ordL_nodup l
  refine (List.Pairwise.and key nd).imp_of_mem fun {i j} hi hj ⟨h1, h2⟩ => ?_
  rw [mem_ordL] at hi hj
  cases h3 : ltI l i j with
  | true => rfl
  | false =>
    have h4 : ltI l j i = false := by
      have hx : l[i]? = some l[i] := List.getElem?_eq_getElem hi
      have hy : l[j]? = some l[j] := List.getElem?_eq_getElem hj
      simp only [leA, hx, hy] at h1
      simp only [ltI, hx, hy]
      simpa using h1
    exact absurd (ltI_total hU hi hj h3 h4) h2
theorem kids_sorted {l : List Lt} (hU : Uni l) (p : Int) : (kids l p).Pairwise fun i j => ltI l i j = true := (ordL_sorted hU).filter _
/-- where the kids are told in order, the next one is the first of the rest -/
def lastOf : List Nat → Int
  | [] => -1
  | a => ((a.getLast?.getD 0 : Nat) : Int)
theorem lastOf_append (a : List Nat) (i : Nat) : lastOf (a ++ [i]) = (i : Int) := by
  cases a with
  | nil => rfl
  | cons x a =>
    show (((x :: a ++ [i]).getLast?.getD 0 : Nat) : Int) = _
    rw [List.getLast?_append]; rfl
theorem cand_iff {l : List Lt} (hU : Uni l) {p : Int} {a r : List Nat} (hk : kids l p = a ++ r) {j : Nat} (hj : j < l.length) : candB l p (lastOf a) j = true ↔ j ∈ r := by
  have hs := kids_sorted hU p
  rw [hk, List.pairwise_append] at hs
  obtain ⟨s1, s2, s3⟩ := hs
  have mk : ∀ {i}, i ∈ a ++ r ↔ i < l.length ∧ parI l i = p := by intro i; rw [← hk]; exact mem_kids
  unfold candB
  rcases List.eq_nil_or_concat a with rfl | ⟨a, x, rfl⟩
  · simp only [lastOf, Bool.and_eq_true, decide_eq_true_eq, Bool.or_eq_true]
    constructor
    · rintro ⟨h, _⟩
      simpa using mk.2 ⟨hj, h⟩
    · intro h; exact ⟨(mk.1 (by simpa using h)).2, .inl (by decide)⟩
  · rw [List.concat_eq_append] at *
    have h0 : ¬ ((x : Int) < 0) := by omega
    simp only [lastOf_append, Bool.and_eq_true, decide_eq_true_eq, Bool.or_eq_true, h0, false_or, Int.toNat_natCast]
    constructor
    · rintro ⟨h, h2⟩
      rcases List.mem_append.1 (mk.2 ⟨hj, h⟩) with h3 | h3
      · rcases List.mem_append.1 h3 with h4 | h4
        · have := (List.pairwise_append.1 s1).2.2 j h4 x (by simp)
          have := ltI_trans this h2
          rw [ltI_irr] at this; cases this
        · have : j = x := by simpa using h4
          subst this
          rw [ltI_irr] at h2; cases h2
      · exact h3
    · intro h
      exact ⟨(mk.1 (List.mem_append.2 (.inr h))).2, s3 x (by simp) j h⟩
theorem next_eq {l : List Lt} (hU : Uni l) {p : Int} {a r : List Nat} (hk : kids l p = a ++ r) : bestF l p (lastOf a) l 0 (-1) = match r with | [] => -1 | i :: _ => (i : Int) := by
  have hb := bestF_spec hU p (lastOf a) l 0 rfl (-1) (.inl ⟨rfl, fun j hj => by omega⟩)
  have hs := kids_sorted hU p
  rw [hk, List.pairwise_append] at hs
  obtain ⟨s1, s2, s3⟩ := hs
  have mk : ∀ {i}, i ∈ r → i < l.length := fun h => (mem_kids.1 (by rw [hk]; exact List.mem_append.2 (.inr h))).1
  rcases hb with ⟨h1, h2⟩ | ⟨i, h1, h2, h3, h4⟩
  · rw [h1]
    cases r with
    | nil => rfl
    | cons i r =>
      have hi := mk (List.mem_cons_self ..)
      have := h2 i hi
      rw [(cand_iff hU hk hi).2 (List.mem_cons_self ..)] at this; cases this
  · rw [h1]
    have hm := (cand_iff hU hk h2).1 h3
    cases r with
    | nil => cases hm
    | cons i0 r =>
      rcases List.mem_cons.1 hm with rfl | hm
      · rfl
      · have hi := mk (List.mem_cons_self ..)
        have h5 := h4 i0 hi ((cand_iff hU hk hi).2 (List.mem_cons_self ..))
        rw [(List.pairwise_cons.1 s2).1 i hm] at h5; cases h5
theorem lastOf_pl {l : List Lt} {p : Int} {a r : List Nat} (hk : kids l p = a ++ r) : Pl l (lastOf a) := by
  rcases List.eq_nil_or_concat a with rfl | ⟨a, x, rfl⟩
  · exact .inl rfl
  · rw [List.concat_eq_append] at *
    rw [lastOf_append]
    exact .inr ⟨x, rfl, (mem_kids.1 (by rw [hk]; simp)).1⟩
def resL (a b : List U) : U := .ofL false [.ofL a.isEmpty a, .ofL b.isEmpty b]
def restK (l : List Lt) (f : Nat) (d : Int) (r : List Nat) : List (Nat × Int) := r.flatMap fun i => (i, d) :: showL l f (i : Nat) (d + 1)
theorem l13_0' {u : U} {l : List Lt} (hu : LtsU u l) (hl : l.length ≤ 1000000) (hU : Uni l) (hr : ∀ x ∈ l, x.refs.length ≤ 1000000) (f : Nat) (p d : Int) (hd0 : 0 ≤ d) (hd : d ≤ 1000000000)
    (H : ∀ i, i < l.length → parI l i = p → Fi K 13 [u, .I (i : Nat), .I (d + 1)] = some (resL (firsts (showL l f (i : Nat) (d + 1))) (seconds (showL l f (i : Nat) (d + 1))))) :
    ∀ r a, kids l p = a ++ r → ∀ x8 x9 : List U, x8.length + (restK l f d r).length ≤ 17592186044416 → x9.length + (restK l f d r).length ≤ 17592186044416 →
      Lp K 13 0 ⟨[u, .I p, .I d, .B true, .B true, .I (lastOf a)], [x8, x9]⟩ = some (.ret (resL (x8 ++ firsts (restK l f d r)) (x9 ++ seconds (restK l f d r))))
  | [], a, hk, x8, x9, h8, h9 => by
    have h2 := l13_2' hu hl hU hr p d (lastOf a) (lastOf_pl hk) true true x8 x9 l 0 rfl (-1) (.inl rfl)
    rw [next_eq hU hk] at h2
    refine l13_0 _ _ _ _ _ _ _ _ ?_
    rw [show (U.I ((0 : Nat) : Int)) = U.I 0 from rfl] at h2
    rw [h2]
    have e1 : x8 ++ firsts (restK l f d []) = x8 := by simp [restK, firsts]
    have e2 : x9 ++ seconds (restK l f d []) = x9 := by simp [restK, seconds]
    rw [e1, e2]
    rfl
  | i :: r, a, hk, x8, x9, h8, h9 => by
    have h2 := l13_2' hu hl hU hr p d (lastOf a) (lastOf_pl hk) true true x8 x9 l 0 rfl (-1) (.inl rfl)
    rw [next_eq hU hk] at h2
    rw [show (U.I ((0 : Nat) : Int)) = U.I 0 from rfl] at h2
    have hm := mem_kids.1 (show i ∈ kids l p by rw [hk]; simp)
    have hh := H i hm.1 hm.2
    have hrk : restK l f d (i :: r) = (i, d) :: showL l f (i : Nat) (d + 1) ++ restK l f d r := by unfold restK; rw [List.flatMap_cons]
    rw [hrk] at h8 h9 ⊢
    simp only [List.length_append, List.length_cons] at h8 h9
    have ih := l13_0' hu hl hU hr f p d hd0 hd H r (a ++ [i]) (by rw [hk]; simp) (x8 ++ [.I (i : Nat)] ++ firsts (showL l f (i : Nat) (d + 1))) (x9 ++ [.I d] ++ seconds (showL l f (i : Nat) (d + 1))) (by simp [firsts]; omega) (by simp [seconds]; omega)
    rw [lastOf_append] at ih
    have h0 : ¬ ((i : Int) < 0) := by omega
    have hd1 : IntKind.wrap .i64 (d + 1) = d + 1 := w64 (by omega) (by omega)
    have c1 : x8.length + 1 ≤ 17592186044416 := by omega
    have c2 : (x8 ++ [U.I (i : Nat)]).length + (firsts (showL l f (i : Nat) (d + 1))).length ≤ 17592186044416 := by simp [firsts]; omega
    have c3 : x9.length + 1 ≤ 17592186044416 := by omega
    have c4 : (x9 ++ [U.I d]).length + (seconds (showL l f (i : Nat) (d + 1))).length ≤ 17592186044416 := by simp [seconds]; omega
    refine l13_0 _ _ _ _ _ _ _ _ ?_
    rw [h2]
    simp only [loK_some_brk, nth_zero, nth_succ, nthL_zero, nthL_succ, toI_I, toB_B, h0, decide_false, cond_false, hd1, hh, Option.bind_some, resL, get_ofL', toL_ofL', c1, c2, c3, c4, decide_true, cond_true]
    have f1 : x8 ++ firsts ((i, d) :: showL l f (i : Nat) (d + 1) ++ restK l f d r) = x8 ++ [U.I (i : Nat)] ++ firsts (showL l f (i : Nat) (d + 1)) ++ firsts (restK l f d r) := by simp [firsts]
    have f2 : x9 ++ seconds ((i, d) :: showL l f (i : Nat) (d + 1) ++ restK l f d r) = x9 ++ [U.I d] ++ seconds (showL l f (i : Nat) (d + 1)) ++ seconds (restK l f d r) := by simp [seconds]
    rw [f1, f2]
    exact ih
theorem s13 {u : U} {l : List Lt} (hu : LtsU u l) (hl : l.length ≤ 1000000) (hU : Uni l) (hr : ∀ x ∈ l, x.refs.length ≤ 1000000) : ∀ (f : Nat) (p d : Int), 0 ≤ d → d + f ≤ 1000000000 → laterN l p < f →
    Fi K 13 [u, .I p, .I d] = some (resL (firsts (showL l f p d)) (seconds (showL l f p d)))
  | 0, p, d, _, _, h => by omega
  | f + 1, p, d, hd0, hd, hf => by
    have hs : restK l f d (kids l p) = showL l (f + 1) p d := rfl
    have hlen := showL_len (l := l) (f + 1) p d
    have h := l13_0' hu hl hU hr f p d hd0 (by omega) (fun i hi hp => s13 hu hl hU hr f _ _ (by omega) (by omega) (by have := laterN_lt hi hp; omega)) (kids l p) [] rfl [] [] (by rw [hs]; simp; omega) (by rw [hs]; simp; omega)
    refine e13 _ _ _ ?_
    rw [show (U.I (-1)) = U.I (lastOf []) from rfl, h, hs]
    rfl
end Go.Proofs.Ytbppeodcnkghpaa
end
