/- Letters, and how they are compared. -/
import Derived.Test.YtbppeodcnkghpaaAbLaw
import Derived.Test.YtbppeodcnkghpaaCEq
set_option linter.unusedVariables false
set_option linter.unusedSimpArgs false
section
namespace Go.Proofs.Ytbppeodcnkghpaa
open Go.Ab
set_option linter.unusedVariables false
set_option linter.unusedSimpArgs false

abbrev Bs := List UInt8
structure Lt where
  id : Bs
  refs : List Bs
  time : Int
/-- a letter as data -/
structure LtU (u : U) (x : Lt) : Prop where
  id : (u.get 0).toS = x.id
  refs : Is U.S (u.get 1) x.refs
  time : (u.get 2).toI = x.time
structure LtsU (u : U) (l : List Lt) : Prop where
  len : u.len = l.length
  get : ∀ i x, l[i]? = some x → LtU (u.get i) x
def cmpI (a b : Int) : Int := bif decide (a < b) then -1 else bif decide (b < a) then 1 else 0
def cmpB (a b : Bs) : Int := bif Op.bytesLess a b then -1 else bif decide (a = b) then 0 else 1
def cmpL (x y : Lt) : Int := bif decide (cmpI x.time y.time = 0) then cmpB x.id y.id else cmpI x.time y.time
def earl (x y : Lt) : Bool := decide (x.time < y.time) || (decide (x.time = y.time) && Op.bytesLess x.id y.id)
theorem s44 (a : Int) : Fi K 44 [.I a] = some (.B false) := e44 a (by simp)
theorem s45 (a : Bs) : Fi K 45 [.S a] = some (.B false) := e45 a (by simp)
theorem s29 (a b : Int) : Fi K 29 [.I a, .I b] = some (.I (cmpI a b)) := by
  refine e29 a b ?_
  simp only [s44, Option.bind_some, toB_B, cond_false]
  unfold cmpI
  cases decide (a < b) <;> cases decide (b < a) <;> rfl
theorem s30 (a b : Bs) : Fi K 30 [.S a, .S b] = some (.I (cmpB a b)) := by
  refine e30 a b ?_
  simp only [s45, Option.bind_some, toB_B, cond_false]
  unfold cmpB
  cases Op.bytesLess a b <;> cases decide (a = b) <;> rfl
theorem s28 (a b : Int) : Fi K 28 [.ofL false [.I a, .I b]] = some (.I (bif decide (a = 0) then b else a)) := by
  have h2 : Lp K 28 0 ⟨[.I 0, .ofL false [.I a, .I b], .I ((2 : Nat) : Int), .I 2], []⟩ = some (.brk ⟨[.I 0], []⟩) := l28_0 _ _ _ _ rfl
  have h1 : Lp K 28 0 ⟨[.I 0, .ofL false [.I a, .I b], .I ((2 : Nat) : Int), .I 1], []⟩ = some (bif decide (b = 0) then .brk ⟨[.I 0], []⟩ else .ret (.I b)) := by
    refine l28_0 _ _ _ _ ?_
    show (bif !decide (b = 0) then some (LO.ret (U.I b)) else Lp K 28 0 ⟨[.I 0, .ofL false [.I a, .I b], .I ((2 : Nat) : Int), .I 2], []⟩) = _
    rw [h2]
    cases decide (b = 0) <;> rfl
  have h0 : Lp K 28 0 ⟨[.I 0, .ofL false [.I a, .I b], .I ((2 : Nat) : Int), .I 0], []⟩ = some (bif decide (a = 0) then (bif decide (b = 0) then .brk ⟨[.I 0], []⟩ else .ret (.I b)) else .ret (.I a)) := by
    refine l28_0 _ _ _ _ ?_
    show (bif !decide (a = 0) then some (LO.ret (U.I a)) else Lp K 28 0 ⟨[.I 0, .ofL false [.I a, .I b], .I ((2 : Nat) : Int), .I 1], []⟩) = _
    rw [h1]
    cases decide (a = 0) <;> rfl
  refine e28 _ ?_
  show loK (Lp K 28 0 ⟨[.I 0, .ofL false [.I a, .I b], .I ((2 : Nat) : Int), .I 0], []⟩) _ _ = _
  rw [h0]
  by_cases ha : a = 0
  · by_cases hb : b = 0
    · subst ha; subst hb; rfl
    · subst ha; simp [hb]
  · simp [ha]
theorem s20 {u v : U} {x y : Lt} (hu : LtU u x) (hv : LtU v y) : Fi K 20 [u, v] = some (.I (cmpL x y)) := by
  refine e20 u v ?_
  rw [hu.time, hv.time, hu.id, hv.id, s29, s30]
  simp only [Option.bind_some, toI_I, s28]
  rfl
theorem s24 {u v : U} {x y : Lt} (hu : LtU u x) (hv : LtU v y) : Fi K 24 [u, v] = some (.B (earl x y)) := by
  refine e24 u v ?_
  rw [hu.time, hv.time, hu.id, hv.id]
  rfl
theorem cmpL_lt (x y : Lt) : decide (cmpL x y < 0) = earl x y := by
  unfold cmpL earl cmpI cmpB
  by_cases h1 : x.time < y.time
  · have h3 : ¬ y.time < x.time := by omega
    simp [h1]
  · by_cases h2 : y.time < x.time
    · have h3 : ¬ x.time = y.time := by omega
      simp [h1, h2, h3]
    · have h3 : x.time = y.time := by omega
      simp only [h1, h2, decide_false, cond_false, decide_true, cond_true, h3, Bool.false_or, Bool.true_and, Int.lt_irrefl]
      cases Op.bytesLess x.id y.id with
      | true => rfl
      | false => cases decide (x.id = y.id) <;> rfl
/-! one of the letters ahead with the same name -/
theorem s32 (u c : U) : Fi K 32 [u, c] = some (.B (decide ((u.get 0).toS = (c.get 0).toS))) := e32 u c rfl
end Go.Proofs.Ytbppeodcnkghpaa
end
section
namespace Go.Proofs.Ytbppeodcnkghpaa
open Go.Ab
set_option linter.unusedVariables false
set_option linter.unusedSimpArgs false
set_option maxRecDepth 100000

def f2 (a b : Int) : U := .ofL false [.I a, .I b]
theorem s22 (a b : Int) : Fi K 22 [.I a, .I b] = some (f2 a b) := e22 a b rfl
theorem s15 (a b c : Int) : Fi K 15 [.I a, .I b, .I c] = some (.B (decide (b ≤ a) && decide (a ≤ c))) := e15 a b c rfl
theorem LtsU.sub {u : U} {l : List Lt} (h : LtsU u l) {n : Nat} (hn : n ≤ l.length) : LtsU (u.sub 0 n) (l.take n) := ⟨by simp [U.sub, U.len]; omega, fun i x hx => by
  rw [List.getElem?_take] at hx
  split at hx
  · show LtU (u.get (0 + i)) x
    rw [Nat.zero_add]; exact h.get i x hx
  · cases hx⟩
def loV : LO → U
  | .ret v => v
  | .brk _ => .I (-1)
def same (s : Bs) (y : Lt) : Bool := decide (y.id = s)
theorem l46 {u c : U} {l : List Lt} (hu : LtsU u l) (hl : l.length < 9223372036854775807) : ∀ r i, l.drop i = r → ∃ o, Lp K 46 0 ⟨[u, .C 32 1 (U.nth [c]), .I (l.length : Nat), .I (i : Nat)], []⟩ = some o ∧ (bif r.any (same (c.get 0).toS) then ∃ j : Nat, o = .ret (.I (j : Nat)) else o = .brk ⟨[], []⟩)
  | [], i, e => by
    have := drop_nil_ge e
    have h1 : ¬ ((i : Int) < (l.length : Int)) := by omega
    exact ⟨_, l46_0 _ _ _ _ (by simp only [h1, decide_false, cond_false]), rfl⟩
  | x :: r, i, e => by
    have k := Cur.of e
    have hlt := k.lt
    have h1 : ((i : Int) < (l.length : Int)) := by omega
    have h2 : (0 : Int) ≤ (i : Int) := by omega
    have hx := hu.get i x k.elem
    obtain ⟨o, o1, o2⟩ := l46 (c := c) hu hl r (i + 1) k.next
    have hcall : Fi K (U.C 32 1 (U.nth [c])).fid ([u.get i] ++ (U.C 32 1 (U.nth [c])).toL) = some (.B (same (c.get 0).toS x)) := by
      have := s32 (u.get i) c
      rw [hx.id] at this
      exact this
    by_cases hs : same (c.get 0).toS x = true
    · refine ⟨.ret (.I (i : Nat)), l46_0 _ _ _ _ ?_, ?_⟩
      · simp only [h1, h2, decide_true, cond_true, Bool.and_self, Int.toNat_natCast, hu.len, hcall, hs, Option.bind_some, toB_B]
      · simp only [List.any_cons, hs, Bool.true_or, cond_true]; exact ⟨i, rfl⟩
    · have hs : same (c.get 0).toS x = false := by simpa using hs
      refine ⟨o, l46_0 _ _ _ _ ?_, ?_⟩
      · rw [w64s (by omega)]
        simp only [h1, h2, decide_true, cond_true, Bool.and_self, Int.toNat_natCast, hu.len, hcall, hs, Option.bind_some, toB_B, cond_false, o1]
      · simpa only [List.any_cons, hs, Bool.false_or] using o2
theorem s31 {u c : U} {l : List Lt} (hu : LtsU u l) (hl : l.length < 9223372036854775807) : Fi K 31 [u, .C 32 1 (U.nth [c])] = some (.B (l.any (same (c.get 0).toS))) := by
  obtain ⟨o, o1, o2⟩ := l46 (c := c) hu hl l 0 rfl
  have h46 : Fi K 46 [u, .C 32 1 (U.nth [c])] = some (loV o) := by
    refine e46 _ _ ?_
    rw [hu.len, show (U.I 0) = U.I ((0 : Nat) : Int) from rfl, o1]
    cases o <;> rfl
  refine e31 _ _ ?_
  rw [h46]
  cases hc : l.any (same (c.get 0).toS) with
  | true =>
    rw [hc] at o2
    obtain ⟨j, rfl⟩ := o2
    have : (0 : Int) ≤ (j : Int) := by omega
    simp [loV, this]
  | false =>
    rw [hc] at o2
    have o2 : o = .brk ⟨[], []⟩ := o2
    subst o2
    simp [loV]
/-- what is wrong with a letter -/
def lcode (l : List Lt) (i : Nat) (x : Lt) : Int :=
  bif decide (x.id = []) || decide (200 < x.id.length) then 10 else bif decide (x.time < -68719476736) || decide (68719476736 < x.time) then 3 else bif decide (30 < x.refs.length) then 2 else bif (l.take i).any (same x.id) then 7 else 0
theorem s23 {u : U} {l : List Lt} (hu : LtsU u l) (hl : l.length ≤ 1000000) {i : Nat} {x : Lt} (hx : l[i]? = some x) : Fi K 23 [u, .I (i : Nat)] = some (.I (lcode l i x)) := by
  have hlt : i < l.length := (List.getElem?_eq_some_iff.1 hx).1
  have h1 : ((i : Int) < (l.length : Int)) := by omega
  have h2 : (0 : Int) ≤ (i : Int) := by omega
  have h3 : ((i : Int) ≤ (l.length : Int)) := by omega
  have hx := hu.get i x hx
  have q := s31 (c := .ofL false [.S x.id, (u.get i).get 1, .I x.time]) (hu.sub (n := i) (by omega)) (by rw [List.length_take]; omega)
  have e0 : ((U.ofL false [.S x.id, (u.get i).get 1, .I x.time]).get 0).toS = x.id := rfl
  rw [e0] at q
  have c1 : ((200 : Int) < ((x.id.length : Nat) : Int)) ↔ 200 < x.id.length := by omega
  have c2 : ((30 : Int) < ((x.refs.length : Nat) : Int)) ↔ 30 < x.refs.length := by omega
  refine e23 _ _ ?_
  simp only [hu.len, h1, h2, h3, decide_true, cond_true, Bool.and_self, Int.toNat_natCast, hx.id, hx.time, hx.refs.len, c1, c2, q, Option.bind_some, toB_B]
  unfold lcode
  cases (decide (x.id = []) || decide (200 < x.id.length)) with
  | true => rfl
  | false =>
    cases (decide (x.time < -68719476736) || decide (68719476736 < x.time)) with
    | true => rfl
    | false =>
      cases decide (30 < x.refs.length) with
      | true => rfl
      | false => cases (l.take i).any (same x.id) <;> rfl
def faultFrom (l : List Lt) : Nat → List Lt → Int × Int
  | _, [] => (0, 0)
  | i, x :: r => bif decide (lcode l i x = 0) then faultFrom l (i + 1) r else (lcode l i x, i)
def lfault (l : List Lt) : Int × Int := bif decide (300 < l.length) then (2, -1) else faultFrom l 0 l
theorem l11 {u : U} {l : List Lt} (hu : LtsU u l) (hl : l.length ≤ 1000000) : ∀ r i, l.drop i = r → Lp K 11 0 ⟨[u, .I 0, .I 0, .I (l.length : Nat), .I (i : Nat)], []⟩ = some (bif decide ((faultFrom l i r).1 = 0) then .brk ⟨[.I 0, .I 0], []⟩ else .ret (f2 (faultFrom l i r).1 (faultFrom l i r).2))
  | [], i, e => by
    have := drop_nil_ge e
    have h1 : ¬ ((i : Int) < (l.length : Int)) := by omega
    refine l11_0 _ _ _ _ _ ?_
    simp only [h1, decide_false, cond_false]
    rfl
  | x :: r, i, e => by
    have k := Cur.of e
    have hlt := k.lt
    have h1 : ((i : Int) < (l.length : Int)) := by omega
    have ih := l11 hu hl r (i + 1) k.next
    refine l11_0 _ _ _ _ _ ?_
    rw [w64s (by omega)]
    simp only [h1, decide_true, cond_true, s23 hu hl k.elem, Option.bind_some, toI_I, ih]
    by_cases hc : lcode l i x = 0
    · simp only [faultFrom, hc, decide_true, cond_true, Bool.not_true, cond_false]
    · have : faultFrom l i (x :: r) = (lcode l i x, (i : Int)) := by simp only [faultFrom, hc, decide_false, cond_false]
      simp only [this, hc, decide_false, Bool.not_false, cond_true, cond_false]
      rfl
theorem s11 {u : U} {l : List Lt} (hu : LtsU u l) : Fi K 11 [u] = some (f2 (lfault l).1 (lfault l).2) := by
  refine e11 _ ?_
  rw [hu.len]
  by_cases h : 300 < l.length
  · have h1 : ((300 : Int) < ((l.length : Nat) : Int)) := by omega
    have h2 : lfault l = (2, -1) := by unfold lfault; rw [decide_eq_true h]; rfl
    simp only [h1, decide_true, cond_true, h2]
    rfl
  · have h1 : ¬ ((300 : Int) < ((l.length : Nat) : Int)) := by omega
    have h2 : lfault l = faultFrom l 0 l := by unfold lfault; rw [decide_eq_false h]; rfl
    have := l11 hu (by omega) l 0 rfl
    simp only [h1, decide_false, cond_false, h2]
    rw [show (U.I 0) = U.I ((0 : Nat) : Int) from rfl] at this ⊢
    rw [this]
    by_cases hc : (faultFrom l 0 l).1 = 0
    · have hz : ∀ r i, (faultFrom l i r).1 = 0 → faultFrom l i r = (0, 0) := by
        intro r
        induction r with
        | nil => intro i _; rfl
        | cons x r ih =>
          intro i h
          by_cases hx : lcode l i x = 0
          · have : faultFrom l i (x :: r) = faultFrom l (i + 1) r := by simp only [faultFrom, hx, decide_true, cond_true]
            rw [this] at h ⊢
            exact ih _ h
          · have : faultFrom l i (x :: r) = (lcode l i x, (i : Int)) := by simp only [faultFrom, hx, decide_false, cond_false]
            rw [this] at h
            exact (hx h).elim
      rw [hz l 0 hc]
      rfl
    · simp only [hc, decide_false, cond_false, loK_some_ret]
end Go.Proofs.Ytbppeodcnkghpaa
end
