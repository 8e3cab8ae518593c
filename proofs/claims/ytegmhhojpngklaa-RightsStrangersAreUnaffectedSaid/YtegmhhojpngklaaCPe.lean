/- What the functions of groups and grants yield: a list with a grant replaced. -/
import Derived.Test.YtegmhhojpngklaaCPd
namespace Go.Proofs.Ytegmhhojpngklaa
open Go.Ab
set_option linter.unusedVariables false
set_option linter.unusedSimpArgs false

theorem ord_pair : ∀ (l : List Gr) (p : Option Gr), Ord p l ↔ (∀ y, p = some y → ∀ x ∈ l, aft x y = true) ∧ l.Pairwise (fun a b => aft b a = true)
  | [], p => by simp [Ord]
  | x :: r, p => by
    simp only [Ord, ord_pair r (some x), List.pairwise_cons]
    constructor
    · rintro ⟨h1, h2, h3⟩
      refine ⟨fun y hy z hz => ?_, h2 x rfl, h3⟩
      rcases List.mem_cons.1 hz with rfl | hz
      · exact h1 y hy
      · exact aft_trans (h2 x rfl z hz) (h1 y hy)
    · rintro ⟨h1, h2, h3⟩
      exact ⟨fun y hy => h1 y hy x (List.mem_cons_self ..), fun y hy z hz => by cases hy; exact h2 z hz, h3⟩
abbrev Sorted (l : List Gr) : Prop := l.Pairwise (fun a b => aft b a = true)
theorem Good.sorted {l : List Gr} (h : Good l) : Sorted l := ((ord_pair l none).1 h.ord).2

def lo (g : Gr) (l : List Gr) : List Gr := l.filter fun x => aft g x
def hi (g : Gr) (l : List Gr) : List Gr := l.filter fun x => aft x g
def mid (g : Gr) : List Gr := bif decide (g.2.2 = 0) then [] else [g]
def setL (l : List Gr) (g : Gr) : List Gr := lo g l ++ mid g ++ hi g l
theorem not_same_of_aft {a b : Gr} (h : aft a b = true) : ¬ same a b := fun e => by rw [aft_same e, aft_irrefl] at h; cases h
theorem not_same_of_aft' {a b : Gr} (h : aft a b = true) : ¬ same b a := fun e => not_same_of_aft h e.symm
theorem hi_all {g x : Gr} {r : List Gr} (h : ∀ y ∈ r, aft y x = true) (hx : aft x g = true ∨ same x g) : hi g r = r ∧ lo g r = [] := by
  have : ∀ y ∈ r, aft y g = true := fun y hy => by
    rcases hx with hx | hx
    · exact aft_trans (h y hy) hx
    · rw [← aft_same' hx]; exact h y hy
  refine ⟨List.filter_eq_self.2 this, List.filter_eq_nil_iff.2 fun y hy => ?_⟩
  rw [aft_asymm (this y hy)]; simp
/-- what is left without the grant -/
theorem others (g : Gr) : ∀ {l : List Gr}, Sorted l → l.filter (fun x => !decide (cmp x g = 0)) = lo g l ++ hi g l
  | [], _ => rfl
  | x :: r, h => by
    have h' := List.pairwise_cons.1 h
    have ih := others g h'.2
    rcases aft_total x g with hx | hx | hx
    · have := hi_all h'.1 (.inl hx)
      have n : ¬ cmp x g = 0 := fun e => not_same_of_aft hx ((cmp_zero x g).1 e)
      unfold lo hi at *
      simp only [List.filter_cons, n, decide_false, Bool.not_false, if_true, aft_asymm hx, hx, ih, this.1, this.2]
      simp
    · have := hi_all h'.1 (.inr hx)
      have n : cmp x g = 0 := (cmp_zero x g).2 hx
      have a1 : aft x g = false := by rw [aft_same hx, aft_irrefl]
      have a2 : aft g x = false := by rw [aft_same' hx, aft_irrefl]
      unfold lo hi at *
      simp only [List.filter_cons, n, decide_true, Bool.not_true, a1, a2, ih, this.1, this.2]
      simp
    · have n : ¬ cmp x g = 0 := fun e => not_same_of_aft' hx ((cmp_zero x g).1 e)
      unfold lo hi at *
      simp only [List.filter_cons, n, decide_false, Bool.not_false, if_true, aft_asymm hx, hx, ih]
      simp

theorem s27 {u : U} {l : List Gr} (h : Is gU u l) (hn : u.isNil = true → l = []) (hl : l.length ≤ 60) : ∃ c, Fi K 27 [u] = some c ∧ Is gU c l := by
  cases hu : u.isNil
  · refine ⟨_, e27 u (r := .ofL false u.toL) ?_, by rw [h.toL]; exact Is.mk' ..⟩
    have : u.toL.length = l.length := by rw [h.toL, List.length_map]
    rw [hu, this]
    have : 0 + l.length ≤ 4398046511104 := by omega
    rw [decide_eq_true this]; rfl
  · have := hn hu
    subst this
    exact ⟨_, e27 u (r := U.nil) (by rw [hu]; rfl), Is.nil _⟩

theorem setUs_take (xs : List U) (i : Nat) (v : U) (h : i < xs.length) : (setUs xs i v).take (i + 1) = xs.take i ++ [v] := by
  induction xs generalizing i with
  | nil => simp at h
  | cons x xs ih =>
    cases i with
    | zero => simp [setUs]
    | succ i => simp only [setUs, List.take_succ_cons, List.cons_append]; rw [ih i (by simpa using h)]
theorem setUs_drop (xs : List U) (i j : Nat) (v : U) (h : i < j) : (setUs xs i v).drop j = xs.drop j := by
  induction xs generalizing i j with
  | nil => rfl
  | cons x xs ih =>
    cases j with
    | zero => omega
    | succ j =>
      cases i with
      | zero => simp [setUs]
      | succ i => simp only [setUs, List.drop_succ_cons]; exact ih i j (by omega)

theorem l26 (z : Bool) (c : U) (n : Nat) (hn : n ≤ 60) (p : Gr → Bool) : ∀ (r : List Gr) (j i : Nat) (xs F : List U), (∀ x ∈ r, Fi K c.fid (gU x :: c.toL) = some (.B (p x))) → xs.length = n → j + r.length = n → i < j → xs.drop j = r.map gU → xs.take i = F →
    ∃ xs' : List U, xs'.length = n ∧ i + (r.filter fun x => !p x).length ≤ n ∧ xs'.take (i + (r.filter fun x => !p x).length) = F ++ (r.filter fun x => !p x).map gU ∧
      Lp K 26 0 ⟨[.B z, c, .I (i : Nat), .I (j : Nat)], [xs]⟩ = some (.brk ⟨[.B z, .I ((i + (r.filter fun x => !p x).length : Nat))], [xs']⟩)
  | [], j, i, xs, F, hp, hx, hj, hi, hd, ht => by
    refine ⟨xs, hx, by simp at hj ⊢; omega, by simpa using ht, l26_0 _ _ _ _ _ ?_⟩
    have : ¬ ((j : Int) < (xs.length : Int)) := by simp at hj; omega
    simp [this]
  | x :: r, j, i, xs, F, hp, hx, hj, hi, hd, ht => by
    have hd' : xs.drop j = gU x :: r.map gU := hd
    have c' := Cur.of hd'
    have hlt := c'.lt
    simp only [List.length_cons] at hj
    have h1 : ((j : Int) < (xs.length : Int)) := by omega
    have h2 : (0 : Int) ≤ (j : Int) := by omega
    have h3 : ((i : Int) < (xs.length : Int)) := by omega
    have h4 : (0 : Int) ≤ (i : Int) := by omega
    have hg' : U.nth xs j = gU x := nth_at c'.elem
    have hg : U.nth xs (0 + j) = gU x := by rw [Nat.zero_add]; exact hg'
    have hpx := hp x (List.mem_cons_self ..)
    have hpr := fun y hy => hp y (List.mem_cons_of_mem _ hy)
    cases hq : p x
    · obtain ⟨xs', a1, a2, a3, a4⟩ := l26 z c n hn p r (j + 1) (i + 1) (setUs xs i (gU x)) (F ++ [gU x]) hpr (by rw [length_setUs, hx]) (by omega) (by omega)
        (by rw [setUs_drop _ _ _ _ (by omega)]; exact c'.next) (by rw [setUs_take _ _ _ (by omega), ht])
      have e : ((x :: r).filter fun x => !p x) = x :: r.filter fun x => !p x := by simp [List.filter_cons, hq]
      rw [e, List.length_cons]
      refine ⟨xs', a1, by omega, ?_, l26_0 _ _ _ _ _ ?_⟩
      · rw [show i + ((r.filter fun x => !p x).length + 1) = i + 1 + (r.filter fun x => !p x).length by omega, a3]; simp
      · simp only [h1, h2, h3, h4, decide_true, cond_true, Bool.and_self, Int.toNat_natCast, hg, hg', gU0, gU1, gU2, toS_S, toB_B, toI_I, gU_eta, List.cons_append, List.nil_append, hpx, hq, Option.bind_some, Bool.not_false, loK_some_brk, nth_zero, nth_succ, nthL_zero, w64s (show i < 9223372036854775807 by omega), w64s (show j < 9223372036854775807 by omega), Nat.zero_add, a4]
        rw [show i + 1 + (r.filter fun x => !p x).length = i + ((r.filter fun x => !p x).length + 1) by omega]
    · obtain ⟨xs', a1, a2, a3, a4⟩ := l26 z c n hn p r (j + 1) i xs F hpr hx (by omega) (by omega) c'.next ht
      have e : ((x :: r).filter fun x => !p x) = r.filter fun x => !p x := by simp [List.filter_cons, hq]
      rw [e]
      refine ⟨xs', a1, a2, a3, l26_0 _ _ _ _ _ ?_⟩
      simp only [h1, h2, h3, h4, decide_true, cond_true, Bool.and_self, Int.toNat_natCast, hg, hg', gU0, gU1, gU2, toS_S, toB_B, toI_I, gU_eta, List.cons_append, List.nil_append, hpx, hq, Option.bind_some, Bool.not_true, cond_false, loK_some_brk, nth_zero, nth_succ, nthL_zero, w64s (show j < 9223372036854775807 by omega), a4]
theorem idx_split (p : Gr → Bool) : ∀ (l : List Gr) (i : Nat), (∃ A x B, l = A ++ x :: B ∧ (∀ y ∈ A, p y = false) ∧ p x = true ∧ idx p i l = ((i + A.length : Nat) : Int)) ∨ ((∀ y ∈ l, p y = false) ∧ idx p i l = -1)
  | [], i => .inr ⟨by simp, rfl⟩
  | x :: r, i => by
    rw [idx_cons]
    cases h : p x
    · rcases idx_split p r (i + 1) with ⟨A, y, B, e1, e2, e3, e4⟩ | ⟨e1, e2⟩
      · refine .inl ⟨x :: A, y, B, by rw [e1]; rfl, fun z hz => ?_, e3, ?_⟩
        · rcases List.mem_cons.1 hz with rfl | hz
          · exact h
          · exact e2 z hz
        · rw [cond_false, e4, List.length_cons]; congr 1; omega
      · refine .inr ⟨fun z hz => ?_, e2⟩
        rcases List.mem_cons.1 hz with rfl | hz
        · exact h
        · exact e1 z hz
    · exact .inl ⟨[], x, r, rfl, by simp, h, by simp⟩
theorem s26 {c : U} {l : List Gr} {b : Bool} (hl : l.length ≤ 60) (p : Gr → Bool) (hp : ∀ x ∈ l, Fi K c.fid (gU x :: c.toL) = some (.B (p x))) :
    ∃ b', Fi K 26 [.ofL b (l.map gU), c] = some (.ofL b' ((l.filter fun x => !p x).map gU)) := by
  have h42 := fun b' => s42 (c := c) (Is.mk' gU b' l) (by unfold Short; omega) p hp
  rcases idx_split p l 0 with ⟨A, x, B, e1, e2, e3, e4⟩ | ⟨e1, e2⟩
  · have hA : A.filter (fun x => !p x) = A := List.filter_eq_self.2 fun y hy => by simp [e2 y hy]
    have hf : l.filter (fun x => !p x) = A ++ B.filter fun x => !p x := by rw [e1, List.filter_append, hA, List.filter_cons]; simp [e3]
    have hle : l.length = A.length + 1 + B.length := by rw [e1]; simp; omega
    obtain ⟨xs', a1, a2, a3, a4⟩ := l26 b c l.length hl p B (A.length + 1) A.length (l.map gU) (A.map gU) (fun y hy => hp y (by rw [e1]; simp [hy])) (by simp) (by omega) (by omega) (by rw [e1, show A ++ x :: B = (A ++ [x]) ++ B by simp, List.map_append]; exact List.drop_left' (by simp)) (by rw [e1]; simp)
    refine ⟨b && (spliceU xs' (0 + (A.length + (B.filter fun x => !p x).length)) (List.replicate ((xs'.drop (0 + (A.length + (B.filter fun x => !p x).length))).take (xs'.length - (A.length + (B.filter fun x => !p x).length))).length (U.ofL false [(U.S []), (U.B false), (U.I 0)]))).isEmpty, e26 _ _ ?_⟩
    rw [Nat.zero_add] at e4
    have hi : IntKind.wrap .i64 ((A.length : Int) + 1) = ((A.length + 1 : Nat) : Int) := w64s (by omega)
    simp only [isNil_ofL', toL_ofL', h42, Option.bind_some, toI_I, e4, hi, a4]
    have h1 : ¬ (((A.length : Nat) : Int) = -1) := by omega
    simp only [h1, decide_false, cond_false, loK_some_brk, nth_zero, nth_succ, nthL_zero, toI_I, toB_B, Int.toNat_natCast]
    generalize hm : A.length + (B.filter fun x => !p x).length = m at *
    have h2 : (0 : Int) ≤ (m : Int) := by omega
    have h3 : ((m : Int) ≤ (xs'.length : Int)) := by omega
    have h4 : ((xs'.length : Int) ≤ (xs'.length : Int)) := by omega
    simp only [h2, h3, h4, decide_true, Bool.and_self, cond_true]
    have h5 : ((m : Int) ≤ ((spliceU xs' (0 + m) (List.replicate ((xs'.drop (0 + m)).take (xs'.length - m)).length (U.ofL false [(U.S []), (U.B false), (U.I 0)]))).length : Int)) := by
      simp [spliceU]; omega
    simp only [h5, decide_true, Bool.and_self, cond_true]
    congr 2
    rw [hf, List.map_append, ← a3]
    simp only [spliceU, Nat.zero_add, List.drop_zero, Nat.sub_zero, List.append_assoc]
    rw [List.take_append_of_le_length (by rw [List.length_take]; omega), List.take_take, Nat.min_self]
  · have hf : l.filter (fun x => !p x) = l := List.filter_eq_self.2 fun y hy => by simp [e1 y hy]
    rw [hf]
    refine ⟨b && (l.map gU).isEmpty, e26 _ _ ?_⟩
    simp only [isNil_ofL', toL_ofL', h42, Option.bind_some, toI_I, e2]
    rfl

theorem w64u {n : Int} (h1 : 0 ≤ n) (h2 : n ≤ 9223372036854775807) : IntKind.wrap .u64 n = n := by
  simp [IntKind.wrap, IntKind.signed, IntKind.bits]; omega
theorem l30 {u c : U} {A B : List Gr} (h : Is gU u (A ++ B)) (hl : (A ++ B).length ≤ 60) (g : Gr) (hc : ∀ x ∈ A ++ B, Fi K c.fid (gU x :: gU g :: c.toL) = some (.I (cmp x g))) (hA : ∀ x ∈ A, cmp x g < 0) (hB : ∀ x ∈ B, ¬ cmp x g < 0) (n : Int) :
    ∀ k i j : Nat, j - i ≤ k → i ≤ A.length → A.length ≤ j → j ≤ (A ++ B).length → Lp K 30 0 ⟨[u, c, .S g.1, .B g.2.1, .I g.2.2, .I n, .I (i : Nat), .I (j : Nat)], []⟩ = some (.brk ⟨[u, c, .S g.1, .B g.2.1, .I g.2.2, .I n, .I (A.length : Nat)], []⟩)
  | k, i, j, hk, h1, h2, h3 => by
    refine l30_0 _ _ _ _ _ _ _ _ ?_
    by_cases hij : i < j
    · have t1 : ((i : Int) < (j : Int)) := by omega
      have t2 : IntKind.wrap .i64 ((i : Int) + (j : Int)) = ((i + j : Nat) : Int) := by rw [w64 (by omega) (by omega)]; omega
      have t3 : IntKind.wrap .u64 ((i + j : Nat) : Int) = ((i + j : Nat) : Int) := w64u (by omega) (by omega)
      have t4 : Int.fdiv ((i + j : Nat) : Int) 2 = (((i + j) / 2 : Nat) : Int) := by rw [Int.fdiv_eq_ediv_of_nonneg _ (by omega)]; omega
      have t5 : IntKind.wrap .i64 (((i + j) / 2 : Nat) : Int) = (((i + j) / 2 : Nat) : Int) := w64n (by omega)
      simp only [t1, t2, t3, t4, t5, decide_true, cond_true]
      generalize hm : (i + j) / 2 = m
      have m1 : i ≤ m := by omega
      have m2 : m < j := by omega
      have hx : (A ++ B)[m]? = some (A ++ B)[m] := List.getElem?_eq_getElem (by omega)
      generalize (A ++ B)[m]'(by omega) = x at hx
      have s1 : (0 : Int) ≤ (m : Int) := by omega
      have s2 : ((m : Int) < ((A ++ B).length : Int)) := by omega
      have hcx := hc x (List.mem_of_getElem? hx)
      simp only [s1, s2, h.len, decide_true, Bool.and_self, cond_true, Int.toNat_natCast, h.get m x hx, gU_eta, List.cons_append, List.nil_append, hcx, Option.bind_some, toI_I]
      by_cases hlt : cmp x g < 0
      · have : m < A.length := by
          rcases Nat.lt_or_ge m A.length with q | q
          · exact q
          · rw [List.getElem?_append_right q] at hx
            exact (hB x (List.mem_of_getElem? hx) hlt).elim
        simp only [hlt, decide_true, cond_true, loK_some_brk, nth_zero, nth_succ, toI_I, toS_S, toB_B, w64s (show m < 9223372036854775807 by omega)]
        match k, hk with
        | 0, hk => omega
        | k + 1, hk => exact l30 h hl g hc hA hB n k (m + 1) j (by omega) (by omega) h2 h3
      · have : A.length ≤ m := by
          rcases Nat.lt_or_ge m A.length with q | q
          · rw [List.getElem?_append_left q] at hx
            exact (hlt (hA x (List.mem_of_getElem? hx))).elim
          · exact q
        simp only [hlt, decide_false, cond_false, loK_some_brk, nth_zero, nth_succ, toI_I, toS_S, toB_B]
        match k, hk with
        | 0, hk => omega
        | k + 1, hk => exact l30 h hl g hc hA hB n k i m (by omega) h1 this (by omega)
    · have t1 : ¬ ((i : Int) < (j : Int)) := by omega
      have : i = A.length := by omega
      subst this
      simp only [t1, decide_false, cond_false]
theorem s30 {u c : U} {A B : List Gr} (h : Is gU u (A ++ B)) (hl : (A ++ B).length ≤ 60) (g : Gr) (hc : ∀ x ∈ A ++ B, Fi K c.fid (gU x :: gU g :: c.toL) = some (.I (cmp x g))) (hA : ∀ x ∈ A, cmp x g < 0) (hB : ∀ x ∈ B, ¬ cmp x g < 0) :
    ∃ b, Fi K 30 [u, gU g, c] = some (.ofL false [.I (A.length : Nat), .B b]) := by
  have h30 := l30 h hl g hc hA hB ((A ++ B).length : Nat) (A ++ B).length 0 (A ++ B).length (by omega) (by omega) (by simp) (by omega)
  have e := fun (x : Gr) (hx : (A ++ B)[A.length]? = some x) => hc x (List.mem_of_getElem? hx)
  by_cases hlt : A.length < (A ++ B).length
  · have hx : (A ++ B)[A.length]? = some (A ++ B)[A.length] := List.getElem?_eq_getElem hlt
    generalize (A ++ B)[A.length]'hlt = x at hx
    refine ⟨decide (((A.length : Nat) : Int) < ((A ++ B).length : Nat)) && decide (cmp x g = 0), e30 _ _ _ ?_⟩
    simp only [gU0, gU1, gU2, toS_S, toB_B, toI_I, h.len]
    rw [show (U.I 0) = U.I ((0 : Nat) : Int) from rfl, h30]
    have t1 : (0 : Int) ≤ (A.length : Int) := by omega
    have t2 : ((A.length : Int) < ((A ++ B).length : Int)) := by omega
    simp only [loK_some_brk, nth_zero, nth_succ, toI_I, toS_S, toB_B, h.len, t1, t2, decide_true, Bool.and_self, Bool.true_or, cond_true, Int.toNat_natCast, h.get _ x hx, gU_eta, List.cons_append, List.nil_append, e x hx, Option.bind_some]
    rfl
  · refine ⟨false, e30 _ _ _ ?_⟩
    simp only [gU0, gU1, gU2, toS_S, toB_B, toI_I, h.len]
    rw [show (U.I 0) = U.I ((0 : Nat) : Int) from rfl, h30]
    have t2 : ¬ ((A.length : Int) < ((A ++ B).length : Int)) := by omega
    simp only [loK_some_brk, nth_zero, nth_succ, toI_I, toS_S, toB_B, h.len, t2, decide_false, Bool.and_false, Bool.not_false, Bool.or_true, cond_true, cond_false, Option.bind_some, Bool.false_and]
theorem s31 {b : Bool} {A B : List Gr} (hl : (A ++ B).length ≤ 60) (g : Gr) : Fi K 31 [.ofL b ((A ++ B).map gU), .I (A.length : Nat), .ofL false [gU g]] = some (.ofL false ((A ++ [g] ++ B).map gU)) := by
  refine Fi_prim (f := insertU 4398046511104) rfl ?_
  have h1 : (0 : Int) ≤ (A.length : Int) := by omega
  have h2 : ((A.length : Int) ≤ (((A ++ B).map gU).length : Int)) := by simp; omega
  have h3 : Nat.ble (((A ++ B).map gU).length + 1) 4398046511104 = true := by rw [Nat.ble_eq, List.length_map]; omega
  simp only [insertU, toI_I, len_ofL', toL_ofL', get_ofL', nth_zero, h1, h2, h3, decide_true, Bool.and_self, Int.toNat_natCast]
  show some _ = _
  simp
end Go.Proofs.Ytegmhhojpngklaa
