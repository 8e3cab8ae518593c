/- The records of a log. -/
import Derived.Test.YtakanjmdnbjipaaCPb
set_option linter.unusedVariables false
set_option linter.unusedSimpArgs false
namespace Go.Proofs.Ytakanjmdnbjipaa
open Go.Ab
set_option linter.unusedVariables false
set_option linter.unusedSimpArgs false
set_option maxRecDepth 100000

/-- bytes, nil only if there are none -/
structure BI (u : U) (l : Bs) : Prop where
  is : Is bU u l
  nl : u.isNil = true → l = []
theorem BI.mk' (l : Bs) : BI (U.ofL false (l.map bU)) l := ⟨Is.mk' bU false l, fun h => by cases h⟩
theorem BI.mke (l : Bs) : BI (U.ofL (l.map bU).isEmpty (l.map bU)) l := ⟨Is.mk' bU _ l, fun h => by
  have h : (l.map bU).isEmpty = true := h
  simpa using h⟩
theorem BI.nil : BI U.nil [] := ⟨Is.nil bU, fun _ => rfl⟩
theorem BI.sub {u : U} {l : Bs} (h : BI u l) {a b : Nat} (hb : b ≤ l.length) : BI (u.sub a b) ((l.take b).drop a) :=
  ⟨sub_b h.is hb, fun hn => by
    have : l = [] := h.nl hn
    subst this; simp⟩
theorem s25 {u : U} {l : Bs} (h : BI u l) (hl : l.length ≤ 1000000) : ∃ v, Fi K 25 [u] = some v ∧ BI v l := by
  cases hn : u.isNil with
  | true =>
    have := h.nl hn
    subst this
    exact ⟨U.nil, e25 _ (by rw [hn]; rfl), BI.nil⟩
  | false =>
    refine ⟨U.ofL false u.toL, e25 _ ?_, by rw [h.is.toL]; exact BI.mk' l⟩
    have h1 : 0 + u.toL.length ≤ 140737488355328 := by rw [h.is.toL]; simp; omega
    rw [hn, decide_eq_true h1]
    rfl
theorem s16 {u v : U} {l m : Bs} (h : Is bU u l) (k : Is bU v m) : Fi K 16 [u, v] = some (.B (decide (l = m))) := e16 _ _ (by rw [bytes_b h, bytes_b k])
theorem s17 (a b : Int) : Fi K 17 [.I a, .I b] = some (.ofL false [.I a, .I b]) := e17 a b rfl
theorem s19 (a b c : Int) : Fi K 19 [.I a, .I b, .I c] = some (.B (decide (b ≤ a) && decide (a ≤ c))) := e19 a b c rfl
theorem l30 {u v : U} {l m : Bs} (hu : Is bU u l) (hv : Is bU v m) (hl : l.length < 9223372036854775807) (he : l.length = m.length) : ∀ r i, l.drop i = r → Lp K 30 0 ⟨[u, v, .I (l.length : Nat), .I (i : Nat)], []⟩ = some (bif decide (r = m.drop i) then .brk ⟨[], []⟩ else .ret (.B false))
  | [], i, e => by
    refine l30_0 _ _ _ _ ?_
    have := drop_nil_ge e
    have h1 : ¬ ((i : Int) < (l.length : Int)) := by omega
    have h2 : m.drop i = [] := List.drop_eq_nil_of_le (by omega)
    simp [h1, h2]
  | c :: r, i, e => by
    have k := Cur.of e
    have hlt := k.lt
    refine l30_0 _ _ _ _ ?_
    have h1 : ((i : Int) < (l.length : Int)) := by omega
    have h1' : ((i : Int) < (m.length : Int)) := by omega
    have h2 : (0 : Int) ≤ (i : Int) := by omega
    have hg := get_b hu hlt
    have hg' := get_b hv (i := i) (by omega)
    rw [k.getD] at hg
    have hd : m.drop i = m.getD i 0 :: m.drop (i + 1) := drop_getD 0 (by omega)
    have ih := l30 hu hv hl he r (i + 1) k.next
    rw [w64s (by omega), hd]
    simp only [h1, h1', h2, decide_true, cond_true, Bool.and_self, Int.toNat_natCast, hu.len, hv.len, hg, hg', ih]
    by_cases hc : c = m.getD i 0
    · rw [← hc]; simp
    · have : ¬ ((c.toNat : Int) = ((m.getD i 0).toNat : Int)) := fun h => hc (UInt8.toNat_inj.1 (by omega))
      rw [decide_eq_false this]
      have h3 : ¬ (c :: r = m.getD i 0 :: m.drop (i + 1)) := fun h => hc (by injection h)
      rw [decide_eq_false h3]
      rfl
theorem s30 {u v : U} {l m : Bs} (hu : Is bU u l) (hv : Is bU v m) (hl : l.length < 9223372036854775807) : Fi K 30 [u, v] = some (.B (decide (l = m))) := by
  refine e30 _ _ ?_
  rw [hu.len, hv.len]
  by_cases he : l.length = m.length
  · have h1 : ((l.length : Int) = (m.length : Int)) := by omega
    have := l30 hu hv hl he l 0 rfl
    rw [decide_eq_true h1, show (U.I 0) = U.I ((0 : Nat) : Int) from rfl, this]
    rw [List.drop_zero]
    cases decide (l = m) <;> rfl
  · have h1 : ¬ ((l.length : Int) = (m.length : Int)) := by omega
    have h2 : ¬ (l = m) := fun h => he (by rw [h])
    rw [decide_eq_false h1, decide_eq_false h2]
    rfl

/-! the record at the beginning of a log -/
def hd (l : Bs) : Nat := (l.getD 0 0).toNat * 256 + (l.getD 1 0).toNat
def okN (l : Bs) : Bool := decide (2 ≤ l.length) && (decide (hd l ≤ 20000) && (decide (hd l + 10 ≤ l.length) && decide (num8 (sum (l.take (hd l + 2))) = (l.drop (hd l + 2)).take 8)))
def nxt (l : Bs) : Option (Bs × Nat) := bif okN l then some ((l.take (hd l + 2)).drop 2, hd l + 10) else none
def nr (l : Bs) : Bs := match nxt l with | some p => p.1 | none => []
def nn (l : Bs) : Nat := match nxt l with | some p => p.2 | none => 0
theorem hd_lt (l : Bs) : hd l < 65536 := by
  have := (l.getD 0 0).toNat_lt
  have := (l.getD 1 0).toNat_lt
  unfold hd; omega
theorem s29 {u : U} {l : Bs} (hu : BI u l) (hl : l.length ≤ 1000000) : ∃ R, Fi K 29 [u] = some (.ofL false [R, .I (nn l : Nat)]) ∧ BI R (nr l) := by
  by_cases h2 : 2 ≤ l.length
  · have g0 := get_b hu.is (i := 0) (by omega)
    have g1 := get_b hu.is (i := 1) (by omega)
    have hh := hd_lt l
    have l0 := (l.getD 0 0).toNat_lt
    have l1 := (l.getD 1 0).toNat_lt
    have hE : IntKind.wrap .i64 ((IntKind.wrap .i64 (2 + (IntKind.wrap .i64 ((IntKind.wrap .i64 (u.get 0).toI) * 256)))) + (IntKind.wrap .i64 (u.get 1).toI)) = ((hd l + 2 : Nat) : Int) := by
      rw [g0, g1, w64n (by omega), w64n (by omega), w64 (n := ((l.getD 0 0).toNat : Int) * 256) (by omega) (by omega), w64 (n := 2 + ((l.getD 0 0).toNat : Int) * 256) (by omega) (by omega), w64 (by omega) (by omega)]
      unfold hd; omega
    have hE2 : IntKind.wrap .i64 (((hd l + 2 : Nat) : Int) - 2) = ((hd l : Nat) : Int) := by rw [w64 (by omega) (by omega)]; omega
    have hE3 : IntKind.wrap .i64 (((hd l + 2 : Nat) : Int) + 8) = ((hd l + 10 : Nat) : Int) := by rw [w64 (by omega) (by omega)]; omega
    have a1 : ¬ ((l.length : Int) < 2) := by omega
    have a2 : ((0 : Int) < (l.length : Int)) := by omega
    have a3 : ((1 : Int) < (l.length : Int)) := by omega
    have a4 : (0 : Int) ≤ ((hd l + 2 : Nat) : Int) := by omega
    have key : ∀ R, Fi K 29 [u] = some (.ofL false [R, .I (nn l : Nat)]) → BI R (nr l) → ∃ R, Fi K 29 [u] = some (.ofL false [R, .I (nn l : Nat)]) ∧ BI R (nr l) := fun R h k => ⟨R, h, k⟩
    by_cases hc : hd l ≤ 20000 ∧ hd l + 10 ≤ l.length
    · obtain ⟨hc1, hc2⟩ := hc
      have b1 : ¬ ((20000 : Int) < ((hd l : Nat) : Int)) := by omega
      have b2 : ¬ ((l.length : Int) < ((hd l + 10 : Nat) : Int)) := by omega
      have b3 : ((hd l + 2 : Nat) : Int) ≤ (l.length : Int) := by omega
      have b4 : ((hd l + 2 : Nat) : Int) ≤ ((hd l + 10 : Nat) : Int) := by omega
      have b5 : ((hd l + 10 : Nat) : Int) ≤ (l.length : Int) := by omega
      have b6 : (2 : Int) ≤ ((hd l + 2 : Nat) : Int) := by omega
      have q1 := s11 (hu.sub (a := 0) (b := hd l + 2) (by omega)).is (by simp; omega)
      have q2 := s30 (Is.mk' bU false (num8 (sum ((l.take (hd l + 2)).drop 0)))) (hu.sub (a := hd l + 2) (b := hd l + 10) (by omega)).is (by simp [num8])
      have e8 : (l.take (hd l + 10)).drop (hd l + 2) = (l.drop (hd l + 2)).take 8 := by
        rw [List.drop_take]; congr 1; omega
      rw [e8, List.drop_zero] at q2
      rw [List.drop_zero] at q1
      cases hs : decide (num8 (sum (l.take (hd l + 2))) = (l.drop (hd l + 2)).take 8) with
      | true =>
        have hok : okN l = true := by unfold okN; rw [hs]; simp [h2, hc1, hc2]
        refine key (u.sub 2 (hd l + 2)) (e29 _ ?_) ?_
        · rw [hE, hE2, hE3, hu.is.len]
          rw [hs] at q2
          simp only [a1, a2, a3, a4, b1, b2, b3, b4, b5, b6, decide_true, decide_false, cond_true, cond_false, Bool.and_self, Bool.or_self, Bool.not_false, Bool.not_true, Bool.or_false, Bool.true_or, Int.toNat_natCast, q1, Option.bind_some, toI_I, s27_8, q2, toB_B]
          unfold nn nxt; rw [hok]; rfl
        · unfold nr nxt
          rw [hok]
          exact hu.sub (by omega)
      | false =>
        have hok : okN l = false := by unfold okN; rw [hs]; simp
        refine key U.nil (e29 _ ?_) ?_
        · rw [hE, hE2, hE3, hu.is.len]
          rw [hs] at q2
          simp only [a1, a2, a3, a4, b1, b2, b3, b4, b5, b6, decide_true, decide_false, cond_true, cond_false, Bool.and_self, Bool.or_self, Bool.not_false, Bool.not_true, Bool.or_false, Bool.true_or, Int.toNat_natCast, q1, Option.bind_some, toI_I, s27_8, q2, toB_B, Bool.or_true]
          unfold nn nxt; rw [hok]; rfl
        · unfold nr nxt
          rw [hok]
          exact BI.nil
    · have hok : okN l = false := by
        unfold okN
        by_cases h1 : hd l ≤ 20000
        · have h3 : ¬ (hd l + 10 ≤ l.length) := fun h => hc ⟨h1, h⟩
          rw [decide_eq_false h3]; simp
        · rw [decide_eq_false h1]; simp
      have hb : (decide ((20000 : Int) < ((hd l : Nat) : Int)) || decide ((l.length : Int) < ((hd l + 10 : Nat) : Int))) = true := by
        simp only [Bool.or_eq_true, decide_eq_true_eq]; omega
      refine key U.nil (e29 _ ?_) ?_
      · rw [hE, hE2, hE3, hu.is.len]
        simp only [a1, a2, a3, a4, hb, decide_true, decide_false, cond_true, cond_false, Bool.not_true, Bool.not_false, Bool.or_true, Option.bind_some, Bool.true_or]
        unfold nn nxt; rw [hok]; rfl
      · unfold nr nxt
        rw [hok]
        exact BI.nil
  · have hok : okN l = false := by unfold okN; rw [decide_eq_false h2]; rfl
    have a1 : ((l.length : Int) < 2) := by omega
    refine ⟨U.nil, e29 _ ?_, ?_⟩
    · rw [hu.is.len, decide_eq_true a1]
      unfold nn nxt; rw [hok]; rfl
    · unfold nr nxt; rw [hok]; exact BI.nil
theorem nn_le (l : Bs) : nn l ≤ l.length ∧ (nn l = 0 ∨ 10 ≤ nn l) := by
  unfold nn nxt
  cases h : okN l with
  | false => simp
  | true =>
    unfold okN at h
    simp only [Bool.and_eq_true, decide_eq_true_eq] at h
    simp; omega
/-! all of them, each with the position behind it -/
def allR : Nat → Bs → Nat → List (Nat × Bs)
  | 0, _, _ => []
  | f + 1, l, k => bif decide (nn (l.drop k) = 0) then [] else (k + nn (l.drop k), nr (l.drop k)) :: allR f l (k + nn (l.drop k))
def Items : List U → List (Nat × Bs) → Prop
  | [], [] => True
  | x :: xs, p :: ps => (x.get 0).toI = (p.1 : Int) ∧ BI (x.get 1) p.2 ∧ Items xs ps
  | _, _ => False
theorem z28 {u : U} {l : Bs} (hu : BI u l) (hl : l.length ≤ 1000000) : ∀ (f k : Nat), k ≤ l.length → l.length < k + f → ∃ its, Yp K 28 [u] 0 ⟨[u, .I (k : Nat)], []⟩ = some ⟨its, none⟩ ∧ Items its (allR f l k)
  | 0, k, h1, h2 => by omega
  | f + 1, k, h1, h2 => by
    have hs := hu.sub (a := k) (b := l.length) (Nat.le_refl _)
    rw [List.take_length] at hs
    obtain ⟨R, q1, q2⟩ := s29 hs (by simp; omega)
    obtain ⟨n1, n2⟩ := nn_le (l.drop k)
    rw [List.length_drop] at n1
    have a1 : (0 : Int) ≤ (k : Int) := by omega
    have a2 : (k : Int) ≤ (l.length : Int) := by omega
    by_cases hz : nn (l.drop k) = 0
    · refine ⟨[], z28_0 _ _ _ ?_, ?_⟩
      · rw [hu.is.len]
        have : ((nn (l.drop k) : Nat) : Int) = 0 := by omega
        simp only [a1, a2, decide_true, Bool.and_self, Int.le_refl, cond_true, Int.toNat_natCast, q1, Option.bind_some, get_ofL', nth_succ, nth_zero, toI_I, this, Bool.not_true, cond_false]
      · unfold allR; rw [decide_eq_true hz]; trivial
    · obtain ⟨its, r1, r2⟩ := z28 hu hl f (k + nn (l.drop k)) (by omega) (by omega)
      refine ⟨U.ofL false [.I ((k + nn (l.drop k) : Nat) : Int), R] :: its, z28_0 _ _ _ ?_, ?_⟩
      · rw [hu.is.len]
        have h3 : ¬ (((nn (l.drop k) : Nat) : Int) = 0) := by omega
        have h4 : IntKind.wrap .i64 ((k : Int) + ((nn (l.drop k) : Nat) : Int)) = ((k + nn (l.drop k) : Nat) : Int) := by rw [w64 (by omega) (by omega)]; omega
        simp only [a1, a2, decide_true, Bool.and_self, Int.le_refl, cond_true, Int.toNat_natCast, q1, Option.bind_some, get_ofL', nth_succ, nth_zero, toI_I, h3, decide_false, Bool.not_false, h4, r1]
        rfl
      · unfold allR
        rw [decide_eq_false hz]
        exact ⟨rfl, q2, r2⟩
def recs (l : Bs) : List (Nat × Bs) := allR (l.length + 1) l 0
theorem y28' {u : U} {l : Bs} (hu : BI u l) (hl : l.length ≤ 1000000) : ∃ its, rgItems K (Yf K) 2 (.C 28 1 (U.nth [u])) = some its ∧ Items its (recs l) := by
  obtain ⟨its, r1, r2⟩ := z28 hu hl (l.length + 1) 0 (by omega) (by omega)
  refine ⟨its, ?_, r2⟩
  have hy : Yf K 28 [u] = some its := y28 u (by
    rw [show (U.I 0) = U.I ((0 : Nat) : Int) from rfl, r1]
    rfl)
  have : rgItems K (Yf K) 2 (.C 28 1 (U.nth [u])) = Yf K 28 [u] := by kernel_rfl
  rw [this, hy]
end Go.Proofs.Ytakanjmdnbjipaa
