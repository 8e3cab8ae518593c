/- What the functions of groups and grants yield: Set and Of, and their reference. -/
import Derived.Test.YtegmhhojpngklaaCPe
namespace Go.Proofs.Ytegmhhojpngklaa
open Go.Ab
set_option linter.unusedVariables false
set_option linter.unusedSimpArgs false

def ne (x g : Gr) : Bool := !decide (x.1 = g.1) || !(x.2.1 == g.2.1)
/-- the reference's list with a grant replaced -/
def grl (g : Gr) : Bool → List Gr → List Gr
  | d, [] => bif !d then [g] else []
  | d, x :: r => (bif !d && aft x g then [g] else []) ++ (bif ne x g then [x] else []) ++ grl g (d || aft x g) r
theorem grl_cons (g : Gr) (d : Bool) (x : Gr) (r : List Gr) : grl g d (x :: r) = (bif !d && aft x g then [g] else []) ++ (bif ne x g then [x] else []) ++ grl g (d || aft x g) r := rfl
/-- without the last -/
def grk (g : Gr) : Bool → List Gr → List Gr
  | _, [] => []
  | d, x :: r => (bif !d && aft x g then [g] else []) ++ (bif ne x g then [x] else []) ++ grk g (d || aft x g) r
theorem grk_cons (g : Gr) (d : Bool) (x : Gr) (r : List Gr) : grk g d (x :: r) = (bif !d && aft x g then [g] else []) ++ (bif ne x g then [x] else []) ++ grk g (d || aft x g) r := rfl
theorem grl_grk (g : Gr) : ∀ (l : List Gr) (d : Bool), grl g d l = grk g d l ++ bif !(d || l.any fun x => aft x g) then [g] else []
  | [], d => by simp [grl, grk]
  | x :: r, d => by rw [grl_cons, grk_cons, grl_grk g r, List.any_cons, Bool.or_assoc]; simp only [List.append_assoc]
theorem ne_iff (x g : Gr) : ne x g = !decide (cmp x g = 0) := by
  have := cmp_zero x g
  unfold same at this
  unfold ne
  by_cases h1 : x.1 = g.1
  · by_cases h2 : x.2.1 = g.2.1
    · simp [h1, h2] at this ⊢; exact this
    · have : ¬ cmp x g = 0 := fun e => h2 (this.1 e).2
      rw [decide_eq_false this, beq_eq_false_iff_ne.2 h2]; simp
  · have : ¬ cmp x g = 0 := fun e => h1 (this.1 e).1
    rw [decide_eq_false this, decide_eq_false h1]; rfl
theorem grl_true (g : Gr) : ∀ l : List Gr, grl g true l = l.filter fun x => !decide (cmp x g = 0)
  | [] => rfl
  | x :: r => by
    rw [grl_cons, Bool.true_or, grl_true g r]
    have : (fun y => !decide (cmp y g = 0)) = fun y => ne y g := by funext y; rw [ne_iff]
    rw [this, List.filter_cons]
    cases ne x g <;> simp
theorem grl_false (g : Gr) : ∀ {l : List Gr}, Sorted l → grl g false l = lo g l ++ [g] ++ hi g l
  | [], _ => rfl
  | x :: r, h => by
    have h' := List.pairwise_cons.1 h
    rw [grl_cons, ne_iff]
    rcases aft_total x g with hx | hx | hx
    · have a := hi_all h'.1 (.inl hx)
      have n : ¬ cmp x g = 0 := fun e => not_same_of_aft hx ((cmp_zero x g).1 e)
      rw [hx, Bool.or_true, grl_true, others g h'.2, a.1, a.2]
      have e1 : lo g (x :: r) = [] := by unfold lo; rw [List.filter_cons, aft_asymm hx]; exact a.2
      have e2 : hi g (x :: r) = x :: r := by unfold hi; rw [List.filter_cons, hx]; simp only [if_true]; congr 1; exact a.1
      rw [e1, e2]; simp [n]
    · have a := hi_all h'.1 (.inr hx)
      have n : cmp x g = 0 := (cmp_zero x g).2 hx
      have a1 : aft x g = false := by rw [aft_same hx, aft_irrefl]
      have a2 : aft g x = false := by rw [aft_same' hx, aft_irrefl]
      rw [a1, Bool.or_false, grl_false g h'.2]
      have e1 : lo g (x :: r) = lo g r := by unfold lo; rw [List.filter_cons, a2]; simp
      have e2 : hi g (x :: r) = hi g r := by unfold hi; rw [List.filter_cons, a1]; simp
      rw [e1, e2]; simp [n]
    · have n : ¬ cmp x g = 0 := fun e => not_same_of_aft' hx ((cmp_zero x g).1 e)
      rw [aft_asymm hx, Bool.or_false, grl_false g h'.2]
      have e1 : lo g (x :: r) = x :: lo g r := by unfold lo; rw [List.filter_cons, hx]; simp
      have e2 : hi g (x :: r) = hi g r := by unfold hi; rw [List.filter_cons, aft_asymm hx]; simp
      rw [e1, e2]; simp [n]
theorem grl_set (g : Gr) {l : List Gr} (h : Sorted l) : grl g (decide (g.2.2 = 0)) l = setL l g := by
  unfold setL mid
  cases decide (g.2.2 = 0)
  · exact grl_false g h
  · rw [grl_true, others g h]; simp

theorem l19 {u : U} {l : List Gr} (h : Is gU u l) (g : Gr) (z : Bool) : ∀ (r : List Gr) (i : Nat) (d : Bool) (xs : List U), l.drop i = r → i + r.length ≤ 60 → xs.length + 2 * r.length ≤ 200 →
    Lp K 19 0 ⟨[u, .S g.1, .B g.2.1, .I g.2.2, .B z, .B d, .I (i : Nat)], [xs]⟩ = some (.brk ⟨[.S g.1, .B g.2.1, .I g.2.2, .B z, .B (d || r.any fun x => aft x g)], [xs ++ (grk g d r).map gU]⟩)
  | [], i, d, xs, hd, _, hx => by
    refine l19_0 _ _ _ _ _ _ _ _ ?_
    have := drop_nil_ge hd
    have : ¬ ((i : Int) < (l.length : Int)) := by omega
    simp [this, h.len, grk]
  | x :: r, i, d, xs, hd, hr, hx => by
    have c := Cur.of hd
    have hlt := c.lt
    simp only [List.length_cons] at hr hx
    refine l19_0 _ _ _ _ _ _ _ _ ?_
    have h1 : ((i : Int) < (l.length : Int)) := by omega
    have h2 : (0 : Int) ≤ (i : Int) := by omega
    have h3 : xs.length + 1 ≤ 4398046511104 := by omega
    have h4 : xs.length + 1 + 1 ≤ 4398046511104 := by omega
    have ih := fun d xs hx => l19 h g z r (i + 1) d xs c.next (by omega) hx
    rw [grk_cons, List.any_cons]
    have hne : (!decide (x.1 = g.1) || !(x.2.1 == g.2.1)) = ne x g := rfl
    simp only [h1, h2, h.len, decide_true, cond_true, Bool.and_self, Bool.true_or, Int.toNat_natCast, h.get i x c.elem, gU_eta, s33]
    cases d
    · simp only [Bool.not_false, cond_true, Option.bind_some, toB_B, Bool.true_and]
      cases ha : aft x g
      · simp only [cond_false, loK_some_brk, nth_zero, nth_succ, nthL_zero, toI_I, toS_S, toB_B, h1, h2, h3, h.len, decide_true, cond_true, Bool.and_self, Bool.true_or, Int.toNat_natCast, h.get i x c.elem, gU0, gU1, gU2, hne]
        cases ne x g
        · simp only [cond_false, loK_some_brk, nth_zero, nth_succ, nthL_zero, toI_I, toS_S, toB_B, w64s (show i < 9223372036854775807 by omega), Bool.false_or, List.nil_append]
          exact ih _ _ (by omega)
        · simp only [cond_true, loK_some_brk, nth_zero, nth_succ, nthL_zero, toI_I, toS_S, toB_B, w64s (show i < 9223372036854775807 by omega), Bool.false_or, List.nil_append]
          rw [ih _ _ (by simp; omega)]; simp
      · simp only [cond_true, h3, decide_true, loK_some_brk, nth_zero, nth_succ, nthL_zero, toI_I, toS_S, toB_B, h1, h2, h4, h.len, Bool.and_self, Bool.true_or, Int.toNat_natCast, h.get i x c.elem, gU0, gU1, gU2, hne, List.length_append, List.length_singleton]
        cases ne x g
        · simp only [cond_false, loK_some_brk, nth_zero, nth_succ, nthL_zero, toI_I, toS_S, toB_B, w64s (show i < 9223372036854775807 by omega), Bool.false_or, Bool.true_or, List.append_nil]
          rw [ih _ _ (by simp; omega)]; simp
        · simp only [cond_true, loK_some_brk, nth_zero, nth_succ, nthL_zero, toI_I, toS_S, toB_B, w64s (show i < 9223372036854775807 by omega), Bool.false_or, Bool.true_or]
          rw [ih _ _ (by simp; omega)]; simp
    · simp only [Bool.not_true, cond_false, Option.bind_some, toB_B, Bool.false_and, loK_some_brk, nth_zero, nth_succ, nthL_zero, toI_I, toS_S, h1, h2, h3, h.len, decide_true, cond_true, Bool.and_self, Bool.true_or, Int.toNat_natCast, h.get i x c.elem, gU0, gU1, gU2, hne]
      cases ne x g
      · simp only [cond_false, loK_some_brk, nth_zero, nth_succ, nthL_zero, toI_I, toS_S, toB_B, w64s (show i < 9223372036854775807 by omega), Bool.true_or, List.nil_append]
        rw [ih _ _ (by omega)]; simp
      · simp only [cond_true, loK_some_brk, nth_zero, nth_succ, nthL_zero, toI_I, toS_S, toB_B, w64s (show i < 9223372036854775807 by omega), Bool.true_or, List.nil_append]
        rw [ih _ _ (by simp; omega)]; simp
theorem grk_len (g : Gr) : ∀ (l : List Gr) (d : Bool), (grk g d l).length ≤ 2 * l.length
  | [], _ => by simp [grk]
  | x :: r, d => by
    have := grk_len g r (d || aft x g)
    rw [grk_cons]
    cases (!d && aft x g) <;> cases ne x g <;> simp <;> omega
theorem s19 {u : U} {l : List Gr} (h : Is gU u l) (hl : l.length ≤ 60) (g : Gr) : ∃ b, Fi K 19 [u, gU g] = some (.ofL b ((grl g (decide (g.2.2 = 0)) l).map gU)) := by
  have i := l19 h g true l 0 (decide (g.2.2 = 0)) [] rfl (by omega) (by simp; omega)
  have hk := grk_len g l (decide (g.2.2 = 0))
  have h3 : ((grk g (decide (g.2.2 = 0)) l).map gU).length + 1 ≤ 4398046511104 := by rw [List.length_map]; omega
  refine ⟨((grl g (decide (g.2.2 = 0)) l).map gU).isEmpty, e19 _ _ ?_⟩
  rw [show U.I ((0 : Nat) : Int) = U.I 0 from rfl] at i
  rw [grl_grk]
  show (loK (Lp K 19 0 ⟨[u, .S g.1, .B g.2.1, .I g.2.2, .B true, .B (decide (g.2.2 = 0)), .I 0], [[]]⟩) _ _ : Option U) = _
  rw [i]
  simp only [loK_some_brk, nth_zero, nth_succ, nthL_zero, toB_B, toS_S, toI_I, List.nil_append, h3, decide_true, cond_true, gU_eta]
  cases (decide (g.2.2 = 0) || l.any fun x => aft x g)
  · simp only [Bool.not_false, cond_true, loK_some_brk, nth_zero, nthL_zero, toB_B, Bool.true_and, List.map_append, List.map_cons, List.map_nil]
  · simp only [Bool.not_true, cond_false, loK_some_brk, nth_zero, nthL_zero, toB_B, Bool.true_and, List.append_nil]

theorem l20 {u w : U} {l : List Gr} (h : Is gU u l) (k : Is gU w l) (hl : l.length ≤ 60) : ∀ (r : List Gr) (i : Nat), l.drop i = r → Lp K 20 0 ⟨[u, w, .I (i : Nat)], []⟩ = some (.brk ⟨[], []⟩)
  | [], i, hd => by
    refine l20_0 _ _ _ ?_
    have := drop_nil_ge hd
    have : ¬ ((i : Int) < (l.length : Int)) := by omega
    simp [this, h.len]
  | x :: r, i, hd => by
    have c := Cur.of hd
    have hlt := c.lt
    refine l20_0 _ _ _ ?_
    have h1 : ((i : Int) < (l.length : Int)) := by omega
    have h2 : (0 : Int) ≤ (i : Int) := by omega
    have ih := l20 h k hl r (i + 1) c.next
    simp only [h1, h2, h.len, k.len, decide_true, cond_true, Bool.and_self, Int.toNat_natCast, h.get i x c.elem, k.get i x c.elem, beq_self_eq_true, Bool.not_true, cond_false, w64s (show i < 9223372036854775807 by omega), ih]
theorem s20 {u w : U} {l : List Gr} (h : Is gU u l) (k : Is gU w l) (hl : l.length ≤ 60) : Fi K 20 [u, w] = some (.B true) := by
  refine e20 _ _ ?_
  rw [show Lp K 20 0 ⟨[u, w, .I 0], []⟩ = _ from l20 h k hl l 0 rfl, h.len, k.len]
  simp

/-- what Set yields -/
def setF (l : List Gr) (g : Gr) : Int × Int :=
  bif !decide (gfault l = (0, 0)) then gfault l else bif !who g.1 then (10, -3) else bif decide (g.2.2 < 0) || decide ((63 : Int) < g.2.2) then (3, -3) else
  bif decide ((60 : Int) < (setL l g).length) then (2, -2) else (0, 0)
def setR (l : List Gr) (g : Gr) : List Gr := bif decide (setF l g = (0, 0)) then setL l g else []
theorem setL_len (l : List Gr) (g : Gr) (h : Good l) : (setL l g).length ≤ 61 := by
  have := others g h.sorted
  have h2 : (lo g l ++ hi g l).length ≤ l.length := by rw [← this]; exact List.length_filter_le ..
  have := h.len
  have hm : (mid g).length ≤ 1 := by unfold mid; cases decide (g.2.2 = 0) <;> simp
  simp only [setL, List.length_append] at *
  omega
structure IsN (u : U) (l : List Gr) : Prop where
  is : Is gU u l
  nil : u.isNil = true → l = []
theorem s8 {u : U} {l : List Gr} (h : IsN u l) (hl : Short l) (hs : ∀ x ∈ l, Sm x.1) (g : Gr) (hg : Sm g.1) :
    ∃ w, Fi K 8 [u, gU g] = some (.ofL false [w, fU (setF l g)]) ∧ IsN w (setR l g) := by
  have nl : IsN U.nil [] := ⟨Is.nil _, fun _ => rfl⟩
  have e13 := s13 h.is hl hs
  have bad : ∀ {a b : Int}, a ≠ 0 → setF l g = (a, b) → setR l g = [] := by
    intro a b h0 e
    unfold setR
    rw [e, decide_eq_false (fun x => h0 (congrArg Prod.fst x))]; rfl
  have f0 : ∀ f : Int × Int, (decide (f.1 = 0) && (decide (f.2 = 0) && true)) = decide (f = (0, 0)) := by
    rintro ⟨a, b⟩
    by_cases ha : a = 0 <;> by_cases hb : b = 0 <;> simp [ha, hb]
  by_cases hf : gfault l = (0, 0)
  · have good := (gfault_good l).1 hf
    cases hw : who g.1
    · have hF : setF l g = (10, -3) := by unfold setF; rw [decide_eq_true hf, hw]; rfl
      refine ⟨U.nil, e8 _ _ ?_, by rw [bad (by decide) hF]; exact nl⟩
      simp only [e13, gU0, gU1, gU2, toS_S, toI_I, toB_B, Option.bind_some, fU0, fU1, hf, decide_true, decide_false, Bool.and_self, Bool.or_self, Bool.not_true, Bool.not_false, cond_false, cond_true, s25 _ hg, hw, s23, get_ofL', nth_zero, nth_succ, loK_some_brk, hF]
      rfl
    · by_cases hr : ¬ (g.2.2 < 0) ∧ ¬ ((63 : Int) < g.2.2)
      · obtain ⟨r1, r2⟩ := hr
        have hgood := h
        obtain ⟨c, c1, c2⟩ := s27 h.is h.nil good.len
        obtain ⟨b, b1⟩ := s26 (c := U.C 28 1 (U.nth [gU g])) (b := c.isNil && (l.map gU).isEmpty) good.len (fun x => decide (cmp x g = 0)) (fun x _ => s28 x g)
        rw [others g good.sorted] at b1
        have hlen : (lo g l ++ hi g l).length ≤ 60 := by rw [← others g good.sorted]; exact Nat.le_trans (List.length_filter_le ..) good.len
        have hA : ∀ x ∈ lo g l, cmp x g < 0 := fun x hx => (cmp_neg x g).2 (List.mem_filter.1 hx).2
        have hB : ∀ x ∈ hi g l, ¬ cmp x g < 0 := fun x hx e => by have h1 := (cmp_neg x g).1 e; have h2 : aft x g = true := (List.mem_filter.1 hx).2; rw [aft_asymm h2] at h1; cases h1
        obtain ⟨b3, b3'⟩ := s30 (c := U.C 29 0 (U.nth [])) (Is.mk' gU (b && ((lo g l ++ hi g l).map gU).isEmpty) (lo g l ++ hi g l)) hlen g (fun x _ => s29 x g) hA hB
        have b4 := s31 (b := b && ((lo g l ++ hi g l).map gU).isEmpty) hlen g
        have hS : setF l g = bif decide ((60 : Int) < (setL l g).length) then (2, -2) else (0, 0) := by unfold setF; rw [decide_eq_true hf, hw, decide_eq_false r1, decide_eq_false r2]; rfl
        -- what the walk gives
        have walk : ∃ b5, Fi K 8 [u, gU g] = some (bif decide ((60 : Int) < (setL l g).length) then .ofL false [U.nil, fU (2, -2)] else .ofL false [.ofL (b5 && ((setL l g).map gU).isEmpty) ((setL l g).map gU), fU (0, 0)]) := by
          by_cases h0 : g.2.2 = 0
          · have hm : setL l g = lo g l ++ hi g l := by unfold setL mid; rw [decide_eq_true h0]; simp
            refine ⟨b, e8 _ _ ?_⟩
            simp only [e13, gU0, gU1, gU2, toS_S, toI_I, toB_B, Option.bind_some, fU0, fU1, hf, decide_true, decide_false, Bool.and_self, Bool.or_self, Bool.not_true, Bool.not_false, cond_false, cond_true, s25 _ hg, hw, r1, r2, s23, get_ofL', nth_zero, nth_succ, loK_some_brk, c1, c2.toL, gU_eta, b1, isNil_ofL', toL_ofL', nthL_zero, ← hm]
            simp only [h0, decide_true, Bool.not_true, cond_false, loK_some_brk, nth_zero, nth_succ, nthL_zero, toI_I, toB_B, Option.bind_some, get_ofL', List.length_map]
            cases decide ((60 : Int) < (setL l g).length) <;> rfl
          · have hm : setL l g = lo g l ++ [g] ++ hi g l := by unfold setL mid; rw [decide_eq_false h0]; rfl
            refine ⟨false, e8 _ _ ?_⟩
            simp only [e13, gU0, gU1, gU2, toS_S, toI_I, toB_B, Option.bind_some, fU0, fU1, hf, decide_true, decide_false, Bool.and_self, Bool.or_self, Bool.not_true, Bool.not_false, cond_false, cond_true, s25 _ hg, hw, r1, r2, s23, get_ofL', nth_zero, nth_succ, loK_some_brk, c1, c2.toL, gU_eta, b1, isNil_ofL', toL_ofL', nthL_zero]
            simp only [h0, decide_false, Bool.not_false, cond_true, gU_eta, b3', b4, ← hm, Option.bind_some, loK_some_brk, nth_zero, nth_succ, nthL_zero, toI_I, toB_B, get_ofL', List.length_map, isNil_ofL', toL_ofL']
            cases decide ((60 : Int) < (setL l g).length) <;> rfl
        obtain ⟨b5, b6⟩ := walk
        rw [b6]
        by_cases h60 : (60 : Int) < (setL l g).length
        · have hF : setF l g = (2, -2) := by rw [hS, decide_eq_true h60]; rfl
          refine ⟨U.nil, by rw [decide_eq_true h60, hF]; rfl, by rw [bad (by decide) hF]; exact nl⟩
        · have hF : setF l g = (0, 0) := by rw [hS, decide_eq_false h60]; rfl
          have hR : setR l g = setL l g := by unfold setR; rw [hF]; rfl
          refine ⟨_, by rw [decide_eq_false h60, hF]; rfl, ?_⟩
          rw [hR]
          refine ⟨Is.mk' .., fun hn => ?_⟩
          simp only [isNil_ofL', Bool.and_eq_true, List.isEmpty_iff, List.map_eq_nil_iff] at hn
          exact hn.2
      · have hr' : (decide (g.2.2 < 0) || decide ((63 : Int) < g.2.2)) = true := by
          by_cases a : g.2.2 < 0 <;> by_cases b : (63 : Int) < g.2.2 <;> simp_all
        have hF : setF l g = (3, -3) := by unfold setF; rw [decide_eq_true hf, hw, hr']; rfl
        refine ⟨U.nil, e8 _ _ ?_, by rw [bad (by decide) hF]; exact nl⟩
        have rr : g.2.2 < 0 ∨ (63 : Int) < g.2.2 := by omega
        rcases rr with rr | rr
        · simp only [e13, gU0, gU1, gU2, toS_S, toI_I, toB_B, Option.bind_some, fU0, fU1, hf, rr, Bool.true_or, decide_true, decide_false, Bool.and_self, Bool.or_self, Bool.not_true, Bool.not_false, cond_false, cond_true, s25 _ hg, hw, s23, get_ofL', nth_zero, nth_succ, loK_some_brk, hF]
          rfl
        · simp only [e13, gU0, gU1, gU2, toS_S, toI_I, toB_B, Option.bind_some, fU0, fU1, hf, rr, Bool.or_true, decide_true, decide_false, Bool.and_self, Bool.or_self, Bool.not_true, Bool.not_false, cond_false, cond_true, s25 _ hg, hw, s23, get_ofL', nth_zero, nth_succ, loK_some_brk, hF]
          rfl
  · have hF : setF l g = gfault l := by unfold setF; rw [decide_eq_false hf]; rfl
    have h0 : (gfault l).1 ≠ 0 := fun e => hf (gfault_code l e)
    refine ⟨U.nil, e8 _ _ ?_, by rw [bad h0 hF]; exact nl⟩
    simp only [e13, gU0, gU1, gU2, toS_S, toI_I, toB_B, Option.bind_some, fU0, fU1, h0, decide_false, Bool.false_and, Bool.not_false, cond_true, loK_some_brk, nth_zero, nth_succ, hF]
    rfl
end Go.Proofs.Ytegmhhojpngklaa
