/- The reference's faults of letters. -/
import Derived.Test.YtbppeodcnkghpaaCPa
set_option linter.unusedVariables false
set_option linter.unusedSimpArgs false
section
namespace Go.Proofs.Ytbppeodcnkghpaa
open Go.Ab
set_option linter.unusedVariables false
set_option linter.unusedSimpArgs false
set_option maxRecDepth 100000

theorem l9_2' {u : U} {l : List Lt} (hu : LtsU u l) (hl : l.length ≤ 1000000) {i : Nat} {x : Lt} (hx : l[i]? = some x) (p q : Int) : ∀ r j, (l.take i).drop j = r → Lp K 9 2 ⟨[u, .I p, .I q, .I (i : Nat), .I (j : Nat)], []⟩ = some (bif r.any (same x.id) then .ret (f2 7 (i : Nat)) else .brk ⟨[u, .I p, .I q, .I (i : Nat)], []⟩)
  | [], j, e => by
    have hlt : i < l.length := (List.getElem?_eq_some_iff.1 hx).1
    have h0 := drop_nil_ge e
    rw [List.length_take] at h0
    have h1 : ¬ ((j : Int) < (i : Int)) := by omega
    exact l9_2 _ _ _ _ _ (by simp only [h1, decide_false, cond_false]; rfl)
  | y :: r, j, e => by
    have hlt : i < l.length := (List.getElem?_eq_some_iff.1 hx).1
    have k := Cur.of e
    have hj := k.lt
    rw [List.length_take] at hj
    have hy : l[j]? = some y := by
      have := k.elem
      rw [List.getElem?_take] at this
      split at this
      · exact this
      · cases this
    have ih := l9_2' hu hl hx p q r (j + 1) k.next
    have h1 : ((j : Int) < (i : Int)) := by omega
    have h2 : (0 : Int) ≤ (j : Int) := by omega
    have h3 : ((j : Int) < (l.length : Int)) := by omega
    have h4 : (0 : Int) ≤ (i : Int) := by omega
    have h5 : ((i : Int) < (l.length : Int)) := by omega
    refine l9_2 _ _ _ _ _ ?_
    rw [w64s (by omega)]
    simp only [h1, h2, h3, h4, h5, decide_true, cond_true, Bool.and_self, Int.toNat_natCast, hu.len, (hu.get j y hy).id, (hu.get i x hx).id, s22, Option.bind_some, ih]
    cases hs : decide (y.id = x.id) with
    | true => simp only [List.any_cons, same, hs, Bool.true_or, cond_true]; rfl
    | false => simp only [List.any_cons, same, hs, Bool.false_or, cond_false]
theorem l9_0' {u : U} {l : List Lt} (hu : LtsU u l) (hl : l.length ≤ 1000000) : ∀ r i, l.drop i = r → Lp K 9 0 ⟨[u, .I 0, .I 0, .I (i : Nat)], []⟩ = some (bif decide ((faultFrom l i r).1 = 0) then .brk ⟨[.I 0, .I 0], []⟩ else .ret (f2 (faultFrom l i r).1 (faultFrom l i r).2))
  | [], i, e => by
    have := drop_nil_ge e
    have h1 : ¬ ((i : Int) < (l.length : Int)) := by omega
    refine l9_0 _ _ _ _ ?_
    simp only [hu.len, h1, decide_false, cond_false]
    rfl
  | x :: r, i, e => by
    have k := Cur.of e
    have hlt := k.lt
    have h1 : ((i : Int) < (l.length : Int)) := by omega
    have h2 : (0 : Int) ≤ (i : Int) := by omega
    have ih := l9_0' hu hl r (i + 1) k.next
    have hx := hu.get i x k.elem
    have l2 := l9_2' hu hl k.elem 0 0 (l.take i) 0 rfl
    rw [show (U.I ((0 : Nat) : Int)) = U.I 0 from rfl] at l2
    refine l9_0 _ _ _ _ ?_
    have c1 : (decide ((1 : Int) ≤ ((x.id.length : Nat) : Int)) && decide (((x.id.length : Nat) : Int) ≤ 200)) = !(decide (x.id = []) || decide (200 < x.id.length)) := by
      cases x.id with
      | nil => rfl
      | cons c s =>
        have h3 : ((1 : Int) ≤ (((c :: s).length : Nat) : Int)) := by simp; omega
        have h4 : ((((c :: s).length : Nat) : Int) ≤ 200) ↔ ¬ (200 < (c :: s).length) := by omega
        have h6 : decide (c :: s = []) = false := by simp
        simp only [h3, h4, h6, decide_true, Bool.true_and, Bool.false_or]
        generalize (c :: s).length = n
        by_cases h5 : 200 < n <;> simp [h5]
    have c2 : (decide ((-68719476736 : Int) ≤ x.time) && decide (x.time ≤ 68719476736)) = !(decide (x.time < -68719476736) || decide (68719476736 < x.time)) := by
      by_cases h3 : x.time < -68719476736
      · have h4 : ¬ ((-68719476736 : Int) ≤ x.time) := by omega
        simp [h3, h4]
      · have h4 : ((-68719476736 : Int) ≤ x.time) := by omega
        by_cases h5 : 68719476736 < x.time
        · have h6 : ¬ (x.time ≤ 68719476736) := by omega
          simp [h3, h4, h5, h6]
        · have h6 : (x.time ≤ 68719476736) := by omega
          simp [h3, h4, h5, h6]
    have c3 : ((30 : Int) < ((x.refs.length : Nat) : Int)) ↔ 30 < x.refs.length := by omega
    simp only [hu.len, h1, h2, decide_true, cond_true, Bool.and_self, Int.toNat_natCast, hx.id, hx.time, hx.refs.len, s15, c1, c2, c3, Option.bind_some, toB_B, Bool.not_not, s22, l2]
    have step : ∀ n : Int, n ≠ 0 → lcode l i x = n → (some (LO.ret (U.ofL false [U.I ((f2 n (i : Nat)).get 0).toI, U.I ((f2 n (i : Nat)).get 1).toI])) : Option LO) = some (bif decide ((faultFrom l i (x :: r)).1 = 0) then .brk ⟨[.I 0, .I 0], []⟩ else .ret (f2 (faultFrom l i (x :: r)).1 (faultFrom l i (x :: r)).2)) := by
      intro n hn hc
      have hc' : ¬ (lcode l i x = 0) := by rw [hc]; exact hn
      have : faultFrom l i (x :: r) = (n, (i : Int)) := by simp only [faultFrom, hc', decide_false, cond_false]; rw [hc]
      rw [this]
      simp only [hn, decide_false, cond_false]
      rfl
    cases d1 : (decide (x.id = []) || decide (200 < x.id.length)) with
    | true => simp only [cond_true]; exact step 10 (by decide) (by unfold lcode; rw [d1]; rfl)
    | false =>
      simp only [cond_false]
      cases d2 : (decide (x.time < -68719476736) || decide (68719476736 < x.time)) with
      | true => simp only [cond_true]; exact step 3 (by decide) (by unfold lcode; rw [d1, d2]; rfl)
      | false =>
        simp only [cond_false]
        cases d3 : decide (30 < x.refs.length) with
        | true => simp only [cond_true]; exact step 2 (by decide) (by unfold lcode; rw [d1, d2, d3]; rfl)
        | false =>
          simp only [cond_false]
          cases d4 : (l.take i).any (same x.id) with
          | true =>
            simp only [cond_true, loK_some_ret]
            exact step 7 (by decide) (by unfold lcode; rw [d1, d2, d3, d4]; rfl)
          | false =>
            have hc : lcode l i x = 0 := by unfold lcode; rw [d1, d2, d3, d4]; rfl
            have : faultFrom l i (x :: r) = faultFrom l (i + 1) r := by simp only [faultFrom, hc, decide_true, cond_true]
            rw [this]
            simp only [cond_false, loK_some_brk, nth_zero, nth_succ, toI_I]
            rw [w64s (by omega)]
            exact ih
theorem faultFrom_ok (l : List Lt) : ∀ r i, (faultFrom l i r).1 = 0 → faultFrom l i r = (0, 0)
  | [], i, _ => rfl
  | x :: r, i, h => by
    by_cases hx : lcode l i x = 0
    · have : faultFrom l i (x :: r) = faultFrom l (i + 1) r := by simp only [faultFrom, hx, decide_true, cond_true]
      rw [this] at h ⊢
      exact faultFrom_ok l r _ h
    · have : faultFrom l i (x :: r) = (lcode l i x, (i : Int)) := by simp only [faultFrom, hx, decide_false, cond_false]
      rw [this] at h
      exact (hx h).elim
theorem s9 {u : U} {l : List Lt} (hu : LtsU u l) : Fi K 9 [u] = some (f2 (lfault l).1 (lfault l).2) := by
  refine e9 _ ?_
  rw [hu.len]
  by_cases h : 300 < l.length
  · have h1 : ((300 : Int) < ((l.length : Nat) : Int)) := by omega
    have h2 : lfault l = (2, -1) := by unfold lfault; rw [decide_eq_true h]; rfl
    simp only [h1, decide_true, cond_true, h2, s22, Option.bind_some]
    rfl
  · have h1 : ¬ ((300 : Int) < ((l.length : Nat) : Int)) := by omega
    have h2 : lfault l = faultFrom l 0 l := by unfold lfault; rw [decide_eq_false h]; rfl
    have := l9_0' hu (by omega) l 0 rfl
    rw [show (U.I ((0 : Nat) : Int)) = U.I 0 from rfl] at this
    simp only [h1, decide_false, cond_false, h2, this]
    by_cases hc : (faultFrom l 0 l).1 = 0
    · rw [faultFrom_ok l l 0 hc]
      rfl
    · simp only [hc, decide_false, cond_false, loK_some_ret]
end Go.Proofs.Ytbppeodcnkghpaa
end
section
namespace Go.Proofs.Ytbppeodcnkghpaa
open Go.Ab
set_option linter.unusedVariables false
set_option linter.unusedSimpArgs false
set_option maxRecDepth 100000

/-- the reference's inner loop: letter `y` at `j` against the names that `x` refers to, from `k` on -/
def parR (x y : Lt) (j : Nat) : List Bs → Nat → Int × Int → Int × Int
  | [], _, s => s
  | b :: r, k, s => parR x y j r (k + 1) (bif decide (b = y.id) && decide (s.2 < (k : Int)) && earl y x then ((j : Int), (k : Int)) else s)
/-- the outer loop -/
def parO (x : Lt) : List Lt → Nat → Int × Int → Int × Int
  | [], _, s => s
  | y :: r, j, s => parO x r (j + 1) (parR x y j x.refs 0 s)
theorem l12_2' {u : U} {l : List Lt} (hu : LtsU u l) {i j : Nat} {x y : Lt} (hx : l[i]? = some x) (hy : l[j]? = some y) (hr : x.refs.length ≤ 1000000) : ∀ r k, x.refs.drop k = r → ∀ p q : Int, Lp K 12 2 ⟨[u, .I (i : Nat), .I p, .I q, .I (j : Nat), .I (k : Nat)], []⟩ = some (.brk ⟨[u, .I (i : Nat), .I (parR x y j r k (p, q)).1, .I (parR x y j r k (p, q)).2, .I (j : Nat)], []⟩)
  | [], k, e, p, q => by
    have h0 := drop_nil_ge e
    have hlt : i < l.length := (List.getElem?_eq_some_iff.1 hx).1
    have h1 : ((i : Int) < (l.length : Int)) := by omega
    have h2 : (0 : Int) ≤ (i : Int) := by omega
    have h3 : ¬ ((k : Int) < (x.refs.length : Int)) := by omega
    refine l12_2 _ _ _ _ _ _ ?_
    simp only [hu.len, h1, h2, h3, decide_true, decide_false, cond_true, cond_false, Bool.and_self, Int.toNat_natCast, (hu.get i x hx).refs.len]
    rfl
  | b :: r, k, e, p, q => by
    have kk := Cur.of e
    have hk := kk.lt
    have hlt : i < l.length := (List.getElem?_eq_some_iff.1 hx).1
    have hjt : j < l.length := (List.getElem?_eq_some_iff.1 hy).1
    have h1 : ((i : Int) < (l.length : Int)) := by omega
    have h2 : (0 : Int) ≤ (i : Int) := by omega
    have h3 : ((k : Int) < (x.refs.length : Int)) := by omega
    have h4 : (0 : Int) ≤ (k : Int) := by omega
    have h5 : ((j : Int) < (l.length : Int)) := by omega
    have h6 : (0 : Int) ≤ (j : Int) := by omega
    have hb := (hu.get i x hx).refs.get k b kk.elem
    refine l12_2 _ _ _ _ _ _ ?_
    simp only [hu.len, h1, h2, h3, h4, h5, h6, decide_true, cond_true, Bool.and_self, Bool.true_or, Int.toNat_natCast, (hu.get i x hx).refs.len, hb, toS_S, (hu.get j y hy).id, s24 (hu.get j y hy) (hu.get i x hx)]
    cases hc : (decide (b = y.id) && decide (q < (k : Int))) with
    | false =>
      have := l12_2' hu hx hy hr r (k + 1) kk.next p q
      simp only [parR, hc, Bool.false_and, cond_false, Option.bind_some, loK_some_brk, nth_zero, nth_succ, toI_I]
      rw [w64s (by omega)]
      exact this
    | true =>
      cases he : earl y x with
      | false =>
        have := l12_2' hu hx hy hr r (k + 1) kk.next p q
        simp only [parR, hc, he, Bool.true_and, Bool.and_false, cond_false, cond_true, Option.bind_some, toB_B, loK_some_brk, nth_zero, nth_succ, toI_I]
        rw [w64s (by omega)]
        exact this
      | true =>
        have := l12_2' hu hx hy hr r (k + 1) kk.next j k
        simp only [parR, hc, he, Bool.true_and, cond_true, Option.bind_some, toB_B, loK_some_brk, nth_zero, nth_succ, toI_I]
        rw [w64s (by omega)]
        exact this
theorem l12_0' {u : U} {l : List Lt} (hu : LtsU u l) (hl : l.length ≤ 1000000) {i : Nat} {x : Lt} (hx : l[i]? = some x) (hr : x.refs.length ≤ 1000000) : ∀ r j, l.drop j = r → ∀ p q : Int, Lp K 12 0 ⟨[u, .I (i : Nat), .I p, .I q, .I (j : Nat)], []⟩ = some (.brk ⟨[.I (parO x r j (p, q)).1], []⟩)
  | [], j, e, p, q => by
    have h0 := drop_nil_ge e
    have h1 : ¬ ((j : Int) < (l.length : Int)) := by omega
    refine l12_0 _ _ _ _ _ ?_
    simp only [hu.len, h1, decide_false, cond_false]
    rfl
  | y :: r, j, e, p, q => by
    have k := Cur.of e
    have hj := k.lt
    have h1 : ((j : Int) < (l.length : Int)) := by omega
    have := l12_2' hu hx k.elem hr x.refs 0 rfl p q
    rw [show (U.I ((0 : Nat) : Int)) = U.I 0 from rfl] at this
    have ih := l12_0' hu hl hx hr r (j + 1) k.next (parR x y j x.refs 0 (p, q)).1 (parR x y j x.refs 0 (p, q)).2
    refine l12_0 _ _ _ _ _ ?_
    simp only [hu.len, h1, decide_true, cond_true, this, loK_some_brk, nth_zero, nth_succ, toI_I]
    rw [w64s (by omega)]
    exact ih
theorem s12 {u : U} {l : List Lt} (hu : LtsU u l) (hl : l.length ≤ 1000000) {i : Nat} {x : Lt} (hx : l[i]? = some x) (hr : x.refs.length ≤ 1000000) : Fi K 12 [u, .I (i : Nat)] = some (.I (parO x l 0 (-1, -1)).1) := by
  refine e12 _ _ ?_
  have := l12_0' hu hl hx hr l 0 rfl (-1) (-1)
  rw [show (U.I ((0 : Nat) : Int)) = U.I 0 from rfl] at this
  rw [this]
  rfl
end Go.Proofs.Ytbppeodcnkghpaa
end
