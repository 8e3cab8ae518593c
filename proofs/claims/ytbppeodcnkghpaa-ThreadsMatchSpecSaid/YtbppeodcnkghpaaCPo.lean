/- The order of arrival does not matter. -/
import Derived.Test.YtbppeodcnkghpaaCPm
set_option linter.unusedVariables false
set_option linter.unusedSimpArgs false
section
namespace Go.Proofs.Ytbppeodcnkghpaa
open Go.Ab
set_option linter.unusedVariables false
set_option linter.unusedSimpArgs false
set_option maxRecDepth 100000

theorem faultFrom_zero {l : List Lt} (h : ∀ i x, l[i]? = some x → lcode l i x = 0) : ∀ r i, l.drop i = r → faultFrom l i r = (0, 0)
  | [], i, e => rfl
  | y :: r, i, e => by
    have k := Cur.of e
    have hy := h i y k.elem
    simp only [faultFrom, hy, decide_true, cond_true]
    exact faultFrom_zero h r (i + 1) k.next
theorem good_zero {l : List Lt} (g : Good l) : (lfault l).1 = 0 := by
  unfold lfault
  rw [decide_eq_false (by have := g.len; omega)]
  show (faultFrom l 0 l).1 = 0
  rw [faultFrom_zero g.code l 0 rfl]
theorem lcode_of {l : List Lt} {i : Nat} {x : Lt} (h1 : x.id ≠ []) (h2 : x.id.length ≤ 200) (h3 : x.refs.length ≤ 30) (h4 : -68719476736 ≤ x.time) (h5 : x.time ≤ 68719476736) (h6 : (l.take i).any (same x.id) = false) : lcode l i x = 0 := by
  unfold lcode
  have a2 : ¬ 200 < x.id.length := by omega
  have a3 : ¬ 30 < x.refs.length := by omega
  have a4 : ¬ x.time < -68719476736 := by omega
  have a5 : ¬ 68719476736 < x.time := by omega
  simp [h1, a2, a3, a4, a5, h6]
theorem rev_get {l : List Lt} {i : Nat} (h : i < l.length) : l.reverse[i]? = l[l.length - 1 - i]? := List.getElem?_reverse h
theorem Good.rev {l : List Lt} (g : Good l) : Good l.reverse := by
  refine ⟨by rw [List.length_reverse]; exact g.len, fun i x hx => ?_⟩
  have hi : i < l.length := by have := (List.getElem?_eq_some_iff.1 hx).1; simpa using this
  rw [rev_get hi] at hx
  obtain ⟨h1, h2, h3, h4, h5, h6⟩ := lcode_zero (g.code _ x hx)
  refine lcode_of h1 h2 h3 h4 h5 ?_
  rw [List.any_eq_false]
  intro y hy hs
  obtain ⟨j, hj⟩ := List.getElem?_of_mem hy
  rw [List.getElem?_take] at hj
  split at hj
  · rename_i hji
    rw [rev_get (by omega)] at hj
    have hs : y.id = x.id := by simpa [same] using hs
    have := uni_eq g.uni hj hx hs
    omega
  · cases hj
theorem good_rev {l : List Lt} : (lfault l.reverse).1 = 0 ↔ (lfault l).1 = 0 := by
  constructor
  · intro h; have := (good_of h).rev; rw [List.reverse_reverse] at this; exact good_zero this
  · intro h; exact good_zero (good_of h).rev
/-- the place in the other order -/
def sg (n : Nat) (p : Int) : Int := bif decide (p < 0) then p else (n : Int) - 1 - p
theorem Va.rev {l : List Lt} {x : Lt} {j k : Nat} (hj : j < l.length) : Va l.reverse x j k ↔ Va l x (l.length - 1 - j) k := by
  unfold Va; rw [rev_get hj]
theorem Va.lt {l : List Lt} {x : Lt} {j k : Nat} (h : Va l x j k) : j < l.length := by
  obtain ⟨y, h, _⟩ := h
  exact (List.getElem?_eq_some_iff.1 h).1
theorem oneP_rev {l : List Lt} (hU : Uni l) (hU' : Uni l.reverse) {x : Lt} {k : Nat} {b : Bs} (hb : x.refs[k]? = some b) : oneP l.reverse x b = (oneP l x b).map (l.length - 1 - ·) := by
  cases h : oneP l x b with
  | none =>
    cases h' : oneP l.reverse x b with
    | none => rfl
    | some j =>
      have v := (oneP_iff hU' hb j).1 h'
      have hl := v.lt
      rw [List.length_reverse] at hl
      have := (oneP_iff hU hb _).2 ((Va.rev hl).1 v)
      rw [h] at this; cases this
  | some j =>
    have v := (oneP_iff hU hb j).1 h
    have hl := v.lt
    have : Va l.reverse x (l.length - 1 - j) k := (Va.rev (by omega)).2 (by rw [show l.length - 1 - (l.length - 1 - j) = j by omega]; exact v)
    rw [(oneP_iff hU' hb _).2 this]; rfl
theorem parN_rev {l : List Lt} (hU : Uni l) (hU' : Uni l.reverse) (x : Lt) : ∀ n, parN l.reverse x n = (parN l x n).map (l.length - 1 - ·)
  | 0 => rfl
  | n + 1 => by
    have ih := parN_rev hU hU' x n
    simp only [parN]
    cases hb : x.refs[n]? with
    | none => simpa only using ih
    | some b =>
      simp only [oneP_rev hU hU' hb]
      cases oneP l x b with
      | none => exact ih
      | some j => rfl
theorem parOf_rev {l : List Lt} (hU : Uni l) (hU' : Uni l.reverse) (x : Lt) : parOf l.reverse x = sg l.length (parOf l x) := by
  unfold parOf
  rw [parN_rev hU hU']
  cases hp : parN l x x.refs.length with
  | none => rfl
  | some j =>
    obtain ⟨y, h1, _⟩ := parN_earl _ _ hp
    have hj := (List.getElem?_eq_some_iff.1 h1).1
    have h0 : ¬ ((j : Int) < 0) := by omega
    simp only [Option.map_some, pI, sg, h0, decide_false, cond_false]
    omega
theorem parI_rev {l : List Lt} (hU : Uni l) (hU' : Uni l.reverse) {i : Nat} (hi : i < l.length) : parI l.reverse (l.length - 1 - i) = sg l.length (parI l i) := by
  unfold parI
  rw [rev_get (by omega), show l.length - 1 - (l.length - 1 - i) = i by omega, List.getElem?_eq_getElem hi]
  exact parOf_rev hU hU' _
theorem parI_lt (l : List Lt) (i : Nat) : parI l i < l.length := by
  rcases Int.lt_or_le (parI l i) 0 with h | h
  · omega
  · obtain ⟨j, hj⟩ := Int.eq_ofNat_of_zero_le h
    obtain ⟨x, y, h1, h2, h3⟩ := parI_earl hj
    have := (List.getElem?_eq_some_iff.1 h2).1
    omega
theorem sg_inj {n : Nat} {p q : Int} (hp : p < n) (hq : q < n) : sg n p = sg n q ↔ p = q := by
  unfold sg
  by_cases h1 : p < 0 <;> by_cases h2 : q < 0 <;> simp [h1, h2] <;> omega
theorem range_rev (n : Nat) : (List.range n).map (n - 1 - ·) = (List.range n).reverse := by
  apply List.ext_getElem
  · simp
  · intro i h1 h2
    simp at h1
    simp
theorem ltI_rev {l : List Lt} {i j : Nat} (hi : i < l.length) (hj : j < l.length) : ltI l.reverse (l.length - 1 - i) (l.length - 1 - j) = ltI l i j := by
  unfold ltI
  rw [rev_get (by omega), rev_get (by omega), show l.length - 1 - (l.length - 1 - i) = i by omega, show l.length - 1 - (l.length - 1 - j) = j by omega]
theorem ordL_rev {l : List Lt} (hU : Uni l) (hU' : Uni l.reverse) : ordL l.reverse = (ordL l).map (l.length - 1 - ·) := by
  refine List.Perm.eq_of_pairwise (le := fun i j => ltI l.reverse i j = true) (fun a b _ _ h1 h2 => ?_) (ordL_sorted hU') ?_ ?_
  · have := ltI_trans h1 h2
    rw [ltI_irr] at this; cases this
  · rw [List.pairwise_map]
    refine (ordL_sorted hU).imp_of_mem fun {i j} hi hj h => ?_
    rw [mem_ordL] at hi hj
    rw [ltI_rev hi hj]; exact h
  · have h1 := ordL_perm l.reverse
    rw [List.length_reverse] at h1
    have h2 := (ordL_perm l).map (l.length - 1 - ·)
    rw [range_rev] at h2
    exact h1.trans ((List.reverse_perm _).symm.trans h2.symm)
theorem kids_rev {l : List Lt} (hU : Uni l) (hU' : Uni l.reverse) {p : Int} (hp : p < l.length) : kids l.reverse (sg l.length p) = (kids l p).map (l.length - 1 - ·) := by
  unfold kids
  rw [ordL_rev hU hU', List.filter_map]
  congr 1
  apply List.filter_congr
  intro i hi
  rw [mem_ordL] at hi
  simp only [Function.comp, parI_rev hU hU' hi, sg_inj (parI_lt l i) hp]
theorem showL_rev {l : List Lt} (hU : Uni l) (hU' : Uni l.reverse) : ∀ f (p d : Int), p < l.length → showL l.reverse f (sg l.length p) d = (showL l f p d).map fun q => (l.length - 1 - q.1, q.2)
  | 0, _, _, _ => rfl
  | f + 1, p, d, hp => by
    simp only [showL, kids_rev hU hU' hp, List.flatMap_map, List.map_flatMap]
    have : ∀ i ∈ kids l p, (l.length - 1 - i, d) :: showL l.reverse f ((l.length - 1 - i : Nat) : Int) (d + 1) = ((i, d) :: showL l f (i : Nat) (d + 1)).map fun q => (l.length - 1 - q.1, q.2) := by
      intro i hi
      have hi := (mem_kids.1 hi).1
      have ih := showL_rev hU hU' f (i : Nat) (d + 1) (by omega)
      have h0 : ¬ ((i : Int) < 0) := by omega
      have e : sg l.length (i : Nat) = ((l.length - 1 - i : Nat) : Int) := by
        simp only [sg, h0, decide_false, cond_false]; omega
      rw [e] at ih
      rw [ih]; rfl
    clear hp
    generalize kids l p = ks at this
    induction ks with
    | nil => rfl
    | cons i ks ih =>
      rw [List.flatMap_cons, List.flatMap_cons, this i (List.mem_cons_self ..), ih fun j hj => this j (List.mem_cons_of_mem _ hj)]
theorem shown_rev {l : List Lt} (hU : Uni l) (hU' : Uni l.reverse) : shown l.reverse = (shown l).map fun q => (l.length - 1 - q.1, q.2) := by
  have := showL_rev hU hU' (l.length + 1) (-1) 0 (by omega)
  unfold shown
  rw [List.length_reverse]
  exact this
/-! every letter is shown -/
theorem Bel.first {l : List Lt} {i j : Nat} (h : Bel l i j) : i = j ∨ ∃ k, parI l k = (i : Int) ∧ Bel l k j := by
  induction h with
  | refl => exact .inl rfl
  | step h hp ih =>
    rcases ih with rfl | ⟨k, h1, h2⟩
    · exact .inr ⟨_, hp, .refl⟩
    · exact .inr ⟨k, h1, .step h2 hp⟩
theorem bel_shown {l : List Lt} : ∀ f (p d : Int) (i j : Nat), i ∈ kids l p → Bel l i j → laterN l p < f → ∃ e, (j, e) ∈ showL l f p d
  | 0, _, _, _, _, _, _, h => by omega
  | f + 1, p, d, i, j, hi, hb, hf => by
    simp only [showL, List.mem_flatMap, List.mem_cons]
    rcases hb.first with rfl | ⟨k, h1, h2⟩
    · exact ⟨d, i, hi, .inl rfl⟩
    · have hk : k < l.length := by obtain ⟨x, y, a1, a2, _⟩ := parI_earl h1; exact (List.getElem?_eq_some_iff.1 a1).1
      have := mem_kids.1 hi
      obtain ⟨e, he⟩ := bel_shown f (i : Nat) (d + 1) k j (mem_kids.2 ⟨hk, h1⟩) h2 (by have := laterN_lt this.1 this.2; omega)
      exact ⟨e, i, hi, .inr he⟩
theorem parI_cases {l : List Lt} {j : Nat} (hj : j < l.length) : parI l j = -1 ∨ ∃ k : Nat, parI l j = (k : Int) := by
  unfold parI
  rw [List.getElem?_eq_getElem hj]
  simp only [parOf]
  cases parN l l[j] l[j].refs.length with
  | none => exact .inl rfl
  | some k => exact .inr ⟨k, rfl⟩
theorem root {l : List Lt} : ∀ m j, j < l.length → (match l[j]? with | some y => (l.filter fun x => earl x y).length | none => 0) < m → ∃ i, i ∈ kids l (-1) ∧ Bel l i j
  | 0, _, _, h => by omega
  | m + 1, j, hj, hm => by
    rcases parI_cases hj with h | ⟨k, h⟩
    · exact ⟨j, mem_kids.2 ⟨hj, h⟩, .refl⟩
    · obtain ⟨x, y, h1, h2, h3⟩ := parI_earl h
      have hlt : (l.filter fun z => earl z y).length < (l.filter fun z => earl z x).length := filter_lt l (fun z _ hz => earl_trans hz h3) ⟨y, List.mem_of_getElem? h2, h3, earl_irr y⟩
      rw [h1] at hm
      have hm : (l.filter fun z => earl z x).length < m + 1 := hm
      obtain ⟨i, hi, hb⟩ := root m k (List.getElem?_eq_some_iff.1 h2).1 (by rw [h2]; show (l.filter fun z => earl z y).length < m; omega)
      exact ⟨i, hi, .step hb h⟩
theorem all_shown {l : List Lt} {j : Nat} (hj : j < l.length) : ∃ e, (j, e) ∈ shown l := by
  obtain ⟨i, hi, hb⟩ := root _ j hj (Nat.lt_succ_self _)
  exact bel_shown _ _ _ i j hi hb (by have := laterN_le l (-1); omega)
theorem shown_len (l : List Lt) : (shown l).length = l.length := by
  have h1 := showL_len (l := l) (l.length + 1) (-1) 0
  have h2 := nodup_sub (List.range l.length) ((shown l).map (·.1)) List.nodup_range (fun j hj => by
    rw [List.mem_range] at hj
    obtain ⟨e, he⟩ := all_shown hj
    exact List.mem_map.2 ⟨_, he, rfl⟩)
  rw [List.length_range, List.length_map] at h2
  unfold shown at *
  omega
theorem shown_lt {l : List Lt} {i : Nat} {e : Int} (h : (i, e) ∈ shown l) : i < l.length := by
  obtain ⟨k, hk, b⟩ := showL_bel _ _ _ _ _ h
  rcases b.earl with rfl | ⟨x', y', a1, a2, a3⟩
  · exact (mem_kids.1 hk).1
  · exact (List.getElem?_eq_some_iff.1 a2).1
end Go.Proofs.Ytbppeodcnkghpaa
end
section
namespace Go.Proofs.Ytbppeodcnkghpaa
open Go.Ab
set_option linter.unusedVariables false
set_option linter.unusedSimpArgs false
set_option maxRecDepth 100000

theorem LtsU.toL {u : U} {l : List Lt} (hu : LtsU u l) {i : Nat} (hi : i < l.length) : u.toL[i]? = some (u.get i) := toL_get u i (by rw [hu.len]; exact hi)
theorem l4_0' {u : U} {l : List Lt} (hu : LtsU u l) (hl : l.length ≤ 2932031007402) (z : Bool) : ∀ (i : Nat) (a : List U), i ≤ l.length → a.length + i = l.length →
    Lp K 4 0 ⟨[u, .B z, .I ((i : Int) - 1)], [a]⟩ = some (.brk ⟨[u, .B z], [a ++ (u.toL.take i).reverse]⟩)
  | 0, a, _, _ => by
    refine l4_0 _ _ _ _ ?_
    have h1 : ¬ ((0 : Int) ≤ ((0 : Nat) : Int) - 1) := by omega
    simp only [h1, decide_false, cond_false, List.take_zero, List.reverse_nil, List.append_nil]
  | i + 1, a, hi, ha => by
    have e : (((i + 1 : Nat) : Int) - 1) = (i : Int) := by omega
    have h1 : ((0 : Int) ≤ (i : Int)) := by omega
    have h2 : ((i : Int) < (l.length : Int)) := by omega
    have h3 : a.length + 1 ≤ 2932031007402 := by omega
    have ih := l4_0' hu hl z i (a ++ [u.get i]) (by omega) (by simp; omega)
    have ht : u.toL.take (i + 1) = u.toL.take i ++ [u.get i] := by rw [List.take_add_one, hu.toL (by omega)]; rfl
    rw [e]
    refine l4_0 _ _ _ _ ?_
    rw [w64 (by omega) (by omega), ht]
    simp only [hu.len, h1, h2, h3, decide_true, Bool.and_self, cond_true, Int.toNat_natCast, ih, List.reverse_append, List.reverse_cons, List.reverse_nil, List.nil_append, List.append_assoc]
theorem rev_lts {u : U} {l : List Lt} (hu : LtsU u l) (z : Bool) : LtsU (.ofL z u.toL.reverse) l.reverse := by
  have hl : u.toL.length = l.length := by rw [toL_len, hu.len]
  refine ⟨by simp [hl], fun i x hx => ?_⟩
  have hi : i < l.length := by have := (List.getElem?_eq_some_iff.1 hx).1; simpa using this
  rw [rev_get hi] at hx
  have e : (U.ofL z u.toL.reverse).get i = u.get (l.length - 1 - i) := by
    show U.nth u.toL.reverse i = _
    refine nth_at ?_
    rw [List.getElem?_reverse (by omega), hl, hu.toL (by omega)]
  rw [e]; exact hu.get _ x hx
theorem l4_2' {u o c : U} {n : Nat} (hu : u.len = n) (hn : n ≤ 1000000) {a : List Nat} (ho : Is U.I o (a.map fun (i : Nat) => (i : Int))) (hc : Is U.I c (a.map fun (i : Nat) => ((n - 1 - i : Nat) : Int))) (ha : ∀ i ∈ a, i < n) (hal : a.length ≤ 1000000) :
    ∀ r i, a.drop i = r → Lp K 4 2 ⟨[u, o, c, .I (i : Nat)], []⟩ = some (.brk ⟨[], []⟩)
  | [], i, e => by
    have h0 := drop_nil_ge e
    have ol : o.len = a.length := by rw [ho.len, List.length_map]
    have h1 : ¬ ((i : Int) < (a.length : Int)) := by omega
    refine l4_2 _ _ _ _ ?_
    simp only [ol, h1, decide_false, cond_false]
  | x :: r, i, e => by
    have k := Cur.of e
    have hi := k.lt
    have ol : o.len = a.length := by rw [ho.len, List.length_map]
    have cl : c.len = a.length := by rw [hc.len, List.length_map]
    have h1 : ((i : Int) < (a.length : Int)) := by omega
    have h2 : ((0 : Int) ≤ (i : Int)) := by omega
    have hx := ha x (List.mem_of_getElem? k.elem)
    have ox := ho.get i x (by simp [k.elem])
    have cx := hc.get i ((n - 1 - x : Nat) : Int) (by simp [k.elem])
    have ih := l4_2' hu hn ho hc ha hal r (i + 1) k.next
    have h3 : (0 : Int) ≤ (x : Int) := by omega
    have h4 : (x : Int) ≤ (n : Int) - 1 := by omega
    have h5 : ((n - 1 - x : Nat) : Int) = (n : Int) - 1 - x := by omega
    refine l4_2 _ _ _ _ ?_
    rw [w64s (by omega), ih, hu, w64 (n := (n : Int) - 1) (by omega) (by omega)]
    simp only [ol, cl, h1, h2, decide_true, Bool.and_self, cond_true, Int.toNat_natCast, ox, cx, toI_I, s15, h3, h4, Option.bind_some, toB_B, Bool.true_or, Bool.not_true, Bool.false_or]
    rw [w64 (n := (n : Int) - 1 - x) (by omega) (by omega)]
    simp only [h5, decide_true, Bool.not_true, cond_false]
theorem p4 {u : U} {l : List Lt} (hu : LtsU u l) (hl : l.length ≤ 2932031007402) : Fi K 4 [u] = some (.B true) := by
  have h0 := l4_0' hu hl true l.length [] (Nat.le_refl _) (by simp)
  have ht : u.toL.take l.length = u.toL := List.take_of_length_le (by rw [toL_len, hu.len]; exact Nat.le_refl _)
  rw [ht, List.nil_append] at h0
  have hr := rev_lts hu (u.toL.reverse).isEmpty
  have h8 := s8 hu
  have h8' := s8 hr
  refine e4 _ ?_
  rw [s10, hu.len, w64 (by omega) (by omega), h0]
  simp only [Option.bind_some, toB_B, Bool.not_true, cond_false, loK_some_brk, nth_zero, nth_succ, nthL_zero, Bool.true_and, h8, h8']
  by_cases h : (lfault l).1 = 0
  · have h' := good_rev.2 h
    have g := good_of h
    have hU := g.uni
    have hU' := g.rev.uni
    have hs := shown_rev hU hU'
    have hn : l.length ≤ 1000000 := by have := g.len; omega
    have hlen := shown_len l
    have lo : (U.ofL (firsts (shown l)).isEmpty (firsts (shown l))).len = l.length := by simp [firsts, hlen]
    have lc : (U.ofL (firsts (shown l.reverse)).isEmpty (firsts (shown l.reverse))).len = l.length := by simp [firsts, hs, hlen]
    have es : sndI (shown l.reverse) = sndI (shown l) := by rw [hs]; simp [sndI]
    have i1 := s14 (seconds_is (seconds (shown l)).isEmpty (shown l)) (seconds_is (seconds (shown l.reverse)).isEmpty (shown l.reverse)) (by simp [sndI, hlen]; omega)
    rw [es, decide_eq_true rfl] at i1
    have ho : Is U.I (U.ofL (firsts (shown l)).isEmpty (firsts (shown l))) (((shown l).map (·.1)).map fun (i : Nat) => (i : Int)) := by
      have := firsts_is (firsts (shown l)).isEmpty (shown l)
      have e : fstI (shown l) = ((shown l).map (·.1)).map fun (i : Nat) => (i : Int) := by simp [fstI]
      rwa [e] at this
    have hc : Is U.I (U.ofL (firsts (shown l.reverse)).isEmpty (firsts (shown l.reverse))) (((shown l).map (·.1)).map fun (i : Nat) => ((l.length - 1 - i : Nat) : Int)) := by
      have := firsts_is (firsts (shown l.reverse)).isEmpty (shown l.reverse)
      have e : fstI (shown l.reverse) = ((shown l).map (·.1)).map fun (i : Nat) => ((l.length - 1 - i : Nat) : Int) := by rw [hs]; simp [fstI]
      rwa [e] at this
    have l2 := l4_2' hu.len hn ho hc (fun i hi => by
      obtain ⟨⟨j, e⟩, h1, h2⟩ := List.mem_map.1 hi
      have h2 : j = i := h2
      subst h2
      exact shown_lt h1) (by simp [hlen]; omega) _ 0 rfl
    rw [show (U.I ((0 : Nat) : Int)) = U.I 0 from rfl] at l2
    simp only [h, h', decide_true, cond_true, f2, get_ofL', nth_zero, nth_succ, toI_I, Bool.not_true, Bool.or_self, cond_false, hu.len, lo, lc, Bool.not_false, i1, Option.bind_some, toB_B, l2, loK_some_brk]
  · have h' : ¬ (lfault l.reverse).1 = 0 := fun e => h (good_rev.1 e)
    simp only [h, h', decide_false, cond_false, f2, get_ofL', nth_zero, nth_succ, toI_I, Bool.not_false, Bool.or_self, cond_true]
    rfl
end Go.Proofs.Ytbppeodcnkghpaa
end
