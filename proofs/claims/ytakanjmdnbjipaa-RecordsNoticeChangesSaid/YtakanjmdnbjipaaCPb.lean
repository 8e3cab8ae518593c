/- Numbers as bytes; records as they are stored. -/
import Derived.Test.YtakanjmdnbjipaaCPa
set_option linter.unusedVariables false
set_option linter.unusedSimpArgs false
namespace Go.Proofs.Ytakanjmdnbjipaa
open Go.Ab
set_option linter.unusedVariables false
set_option linter.unusedSimpArgs false
set_option maxRecDepth 100000

def by1 (v : Int) (k : Int) : U := .I (IntKind.wrap .u8 (Int.fdiv v k))
theorem l27_8 (v : Int) : ∀ x0 x1 x2 x3 x4 x5 x6 x7 : U, Lp K 27 0 ⟨[.I 8, .I v, .B false, .I 8, .I 0], [[x0, x1, x2, x3, x4, x5, x6, x7]]⟩ =
    some (.brk ⟨[.B false], [[by1 v 72057594037927936, by1 v 281474976710656, by1 v 1099511627776, by1 v 4294967296, by1 v 16777216, by1 v 65536, by1 v 256, by1 v 1]]⟩) := by
  have m8 : ∀ x0 x1 x2 x3 x4 x5 x6 x7 : U, Lp K 27 0 ⟨[.I 8, .I v, .B false, .I 8, .I 8], [[x0, x1, x2, x3, x4, x5, x6, x7]]⟩ = some (.brk ⟨[.B false], [[x0, x1, x2, x3, x4, x5, x6, x7]]⟩) := fun _ _ _ _ _ _ _ _ => l27_0 _ _ _ _ _ _ (by kernel_rfl)
  have m7 : ∀ x0 x1 x2 x3 x4 x5 x6 x7 : U, Lp K 27 0 ⟨[.I 8, .I v, .B false, .I 8, .I 7], [[x0, x1, x2, x3, x4, x5, x6, x7]]⟩ = some (.brk ⟨[.B false], [[by1 v 72057594037927936, x1, x2, x3, x4, x5, x6, x7]]⟩) := fun _ x1 x2 x3 x4 x5 x6 x7 => l27_0 _ _ _ _ _ _ (Eq.trans (by kernel_rfl) (m8 (by1 v 72057594037927936) x1 x2 x3 x4 x5 x6 x7))
  have m6 : ∀ x0 x1 x2 x3 x4 x5 x6 x7 : U, Lp K 27 0 ⟨[.I 8, .I v, .B false, .I 8, .I 6], [[x0, x1, x2, x3, x4, x5, x6, x7]]⟩ = some (.brk ⟨[.B false], [[by1 v 72057594037927936, by1 v 281474976710656, x2, x3, x4, x5, x6, x7]]⟩) := fun x0 _ x2 x3 x4 x5 x6 x7 => l27_0 _ _ _ _ _ _ (Eq.trans (by kernel_rfl) (m7 x0 (by1 v 281474976710656) x2 x3 x4 x5 x6 x7))
  have m5 : ∀ x0 x1 x2 x3 x4 x5 x6 x7 : U, Lp K 27 0 ⟨[.I 8, .I v, .B false, .I 8, .I 5], [[x0, x1, x2, x3, x4, x5, x6, x7]]⟩ = some (.brk ⟨[.B false], [[by1 v 72057594037927936, by1 v 281474976710656, by1 v 1099511627776, x3, x4, x5, x6, x7]]⟩) := fun x0 x1 _ x3 x4 x5 x6 x7 => l27_0 _ _ _ _ _ _ (Eq.trans (by kernel_rfl) (m6 x0 x1 (by1 v 1099511627776) x3 x4 x5 x6 x7))
  have m4 : ∀ x0 x1 x2 x3 x4 x5 x6 x7 : U, Lp K 27 0 ⟨[.I 8, .I v, .B false, .I 8, .I 4], [[x0, x1, x2, x3, x4, x5, x6, x7]]⟩ = some (.brk ⟨[.B false], [[by1 v 72057594037927936, by1 v 281474976710656, by1 v 1099511627776, by1 v 4294967296, x4, x5, x6, x7]]⟩) := fun x0 x1 x2 _ x4 x5 x6 x7 => l27_0 _ _ _ _ _ _ (Eq.trans (by kernel_rfl) (m5 x0 x1 x2 (by1 v 4294967296) x4 x5 x6 x7))
  have m3 : ∀ x0 x1 x2 x3 x4 x5 x6 x7 : U, Lp K 27 0 ⟨[.I 8, .I v, .B false, .I 8, .I 3], [[x0, x1, x2, x3, x4, x5, x6, x7]]⟩ = some (.brk ⟨[.B false], [[by1 v 72057594037927936, by1 v 281474976710656, by1 v 1099511627776, by1 v 4294967296, by1 v 16777216, x5, x6, x7]]⟩) := fun x0 x1 x2 x3 _ x5 x6 x7 => l27_0 _ _ _ _ _ _ (Eq.trans (by kernel_rfl) (m4 x0 x1 x2 x3 (by1 v 16777216) x5 x6 x7))
  have m2 : ∀ x0 x1 x2 x3 x4 x5 x6 x7 : U, Lp K 27 0 ⟨[.I 8, .I v, .B false, .I 8, .I 2], [[x0, x1, x2, x3, x4, x5, x6, x7]]⟩ = some (.brk ⟨[.B false], [[by1 v 72057594037927936, by1 v 281474976710656, by1 v 1099511627776, by1 v 4294967296, by1 v 16777216, by1 v 65536, x6, x7]]⟩) := fun x0 x1 x2 x3 x4 _ x6 x7 => l27_0 _ _ _ _ _ _ (Eq.trans (by kernel_rfl) (m3 x0 x1 x2 x3 x4 (by1 v 65536) x6 x7))
  have m1 : ∀ x0 x1 x2 x3 x4 x5 x6 x7 : U, Lp K 27 0 ⟨[.I 8, .I v, .B false, .I 8, .I 1], [[x0, x1, x2, x3, x4, x5, x6, x7]]⟩ = some (.brk ⟨[.B false], [[by1 v 72057594037927936, by1 v 281474976710656, by1 v 1099511627776, by1 v 4294967296, by1 v 16777216, by1 v 65536, by1 v 256, x7]]⟩) := fun x0 x1 x2 x3 x4 x5 _ x7 => l27_0 _ _ _ _ _ _ (Eq.trans (by kernel_rfl) (m2 x0 x1 x2 x3 x4 x5 (by1 v 256) x7))
  exact fun x0 x1 x2 x3 x4 x5 x6 _ => l27_0 _ _ _ _ _ _ (Eq.trans (by kernel_rfl) (m1 x0 x1 x2 x3 x4 x5 x6 (by1 v 1)))
theorem l27_2 (v : Int) : ∀ x0 x1 : U, Lp K 27 0 ⟨[.I 2, .I v, .B false, .I 2, .I 0], [[x0, x1]]⟩ = some (.brk ⟨[.B false], [[by1 v 256, by1 v 1]]⟩) := by
  have m2 : ∀ x0 x1 : U, Lp K 27 0 ⟨[.I 2, .I v, .B false, .I 2, .I 2], [[x0, x1]]⟩ = some (.brk ⟨[.B false], [[x0, x1]]⟩) := fun _ _ => l27_0 _ _ _ _ _ _ (by kernel_rfl)
  have m1 : ∀ x0 x1 : U, Lp K 27 0 ⟨[.I 2, .I v, .B false, .I 2, .I 1], [[x0, x1]]⟩ = some (.brk ⟨[.B false], [[by1 v 256, x1]]⟩) := fun _ x1 => l27_0 _ _ _ _ _ _ (Eq.trans (by kernel_rfl) (m2 (by1 v 256) x1))
  exact fun x0 _ => l27_0 _ _ _ _ _ _ (Eq.trans (by kernel_rfl) (m1 x0 (by1 v 1)))
/-- a number as a byte -/
def b8 (n : Nat) : UInt8 := UInt8.ofNat n
theorem by1_eq (n k : Nat) : by1 (n : Int) (k : Int) = bU (b8 (n / k)) := by
  unfold by1 bU b8
  rw [Int.fdiv_eq_ediv_of_nonneg _ (by omega)]
  simp [IntKind.wrap, IntKind.signed, IntKind.bits]
def num8 (n : Nat) : Bs := [b8 (n / 72057594037927936), b8 (n / 281474976710656), b8 (n / 1099511627776), b8 (n / 4294967296), b8 (n / 16777216), b8 (n / 65536), b8 (n / 256), b8 (n / 1)]
def num2 (n : Nat) : Bs := [b8 (n / 256), b8 (n / 1)]
theorem s27_8 (n : Nat) : Fi K 27 [.I 8, .I (n : Nat)] = some (.ofL false ((num8 n).map bU)) := by
  refine e27 _ _ ?_
  have := l27_8 (n : Int) (.I 0) (.I 0) (.I 0) (.I 0) (.I 0) (.I 0) (.I 0) (.I 0)
  have e : Lp K 27 0 ⟨[(U.I 8), (U.I (n : Int)), (U.B false), (U.I (((List.replicate (8 : Int).toNat (U.I 0)).length : Nat) : Int)), (U.I 0)], [(List.replicate (8 : Int).toNat (U.I 0))]⟩ = _ := this
  rw [e]
  have h1 : (decide ((0 : Int) ≤ 8) && decide ((8 : Int) ≤ 8) && decide ((8 : Int) ≤ 140737488355328)) = true := by decide
  rw [h1]
  simp only [cond_true, loK_some_brk, nth_zero, toB_B, Bool.false_and, nthL_zero]
  have q := fun k : Nat => by1_eq n k
  unfold num8
  simp only [List.map_cons, List.map_nil, ← q]
  rfl
theorem s27_2 (n : Nat) : Fi K 27 [.I 2, .I (n : Nat)] = some (.ofL false ((num2 n).map bU)) := by
  refine e27 _ _ ?_
  have := l27_2 (n : Int) (.I 0) (.I 0)
  have e : Lp K 27 0 ⟨[(U.I 2), (U.I (n : Int)), (U.B false), (U.I (((List.replicate (2 : Int).toNat (U.I 0)).length : Nat) : Int)), (U.I 0)], [(List.replicate (2 : Int).toNat (U.I 0))]⟩ = _ := this
  rw [e]
  have h1 : (decide ((0 : Int) ≤ 2) && decide ((2 : Int) ≤ 2) && decide ((2 : Int) ≤ 140737488355328)) = true := by decide
  rw [h1]
  simp only [cond_true, loK_some_brk, nth_zero, toB_B, Bool.false_and, nthL_zero]
  have q := fun k : Nat => by1_eq n k
  unfold num2
  simp only [List.map_cons, List.map_nil, ← q]
  rfl
theorem b8_inj {n m : Nat} (h : b8 n = b8 m) : n % 256 = m % 256 := by
  have := congrArg UInt8.toNat h
  simpa [b8] using this
theorem num8_inj {n m : Nat} (hn : n < 18446744073709551616) (hm : m < 18446744073709551616) (h : num8 n = num8 m) : n = m := by
  unfold num8 at h
  simp only [List.cons.injEq, and_true] at h
  obtain ⟨q0, q1, q2, q3, q4, q5, q6, q7⟩ := h
  have p0 := b8_inj q0
  have p1 := b8_inj q1
  have p2 := b8_inj q2
  have p3 := b8_inj q3
  have p4 := b8_inj q4
  have p5 := b8_inj q5
  have p6 := b8_inj q6
  have p7 := b8_inj q7
  omega
/-- a record as it is stored -/
def head2 (r : Bs) : Bs := num2 r.length ++ r
def frame (r : Bs) : Bs := head2 r ++ num8 (sum (head2 r))
theorem head2_len (r : Bs) : (head2 r).length = r.length + 2 := by simp [head2, num2]
theorem frame_len (r : Bs) : (frame r).length = r.length + 10 := by simp [frame, head2_len, num8]
theorem s23 {u : U} {l : Bs} (hu : Is bU u l) (hl : l.length ≤ 1000000) : Fi K 23 [u] = some (.ofL false ((frame l).map bU)) := by
  refine e23 _ ?_
  rw [hu.len, wu64 (by omega), s27_2]
  simp only [Option.bind_some, toL_ofL', isNil_ofL', Bool.false_and, hu.toL, ← List.map_append, List.length_map]
  have h1 : (num2 l.length).length + l.length ≤ 140737488355328 := by simp [num2]; omega
  have hi : Is bU (U.ofL false ((num2 l.length ++ l).map bU)) (head2 l) := Is.mk' bU false _
  rw [decide_eq_true h1, s11 hi (by rw [head2_len]; omega)]
  simp only [cond_true, Option.bind_some, toI_I, s27_8, toL_ofL', List.length_map, ← List.map_append]
  have h2 : (num2 l.length ++ l).length + (num8 (sum (head2 l))).length ≤ 140737488355328 := by simp [num2, num8]; omega
  rw [decide_eq_true h2]
  rfl
/-! the reference's form of it -/
theorem l18 (s : Nat) (hs : s < 18446744073709551616) (xs : List U) (hx : xs.length ≤ 2000000) : Lp K 18 0 ⟨[.B false, .I (s : Nat), .I 72057594037927936, .I 0], [xs]⟩ = some (.brk ⟨[.B false], [xs ++ (num8 s).map bU]⟩) := by
  have byte : ∀ k : Nat, 0 < k → IntKind.wrap .u8 (Int.tmod (IntKind.wrap .u64 (Int.tdiv (s : Int) (k : Int))) 256) = ((b8 (s / k)).toNat : Int) := by
    intro k hk
    have hle : s / k ≤ s := Nat.div_le_self _ _
    rw [Int.tdiv_eq_ediv_of_nonneg (by omega), ← Int.natCast_ediv, wu64 (by omega), Int.tmod_eq_emod_of_nonneg (Int.natCast_nonneg _)]
    simp [IntKind.wrap, IntKind.signed, IntKind.bits, b8]
  have m8 : ∀ xs : List U, Lp K 18 0 ⟨[.B false, .I (s : Nat), .I 0, .I 8], [xs]⟩ = some (.brk ⟨[.B false], [xs]⟩) := fun xs => l18_0 _ _ _ _ _ (by simp)
  have step : ∀ (k i k' : Nat) (xs : List U) (o : LO), 0 < k → i < 8 → k / 256 = k' → k < 18446744073709551616 → xs.length ≤ 3000000 →
      Lp K 18 0 ⟨[.B false, .I (s : Nat), .I (k' : Nat), .I ((i + 1 : Nat) : Int)], [xs ++ [bU (b8 (s / k))]]⟩ = some o → Lp K 18 0 ⟨[.B false, .I (s : Nat), .I (k : Nat), .I (i : Nat)], [xs]⟩ = some o := by
    intro k i k' xs o hk hi hk' hk2 hxs h
    refine l18_0 _ _ _ _ _ ?_
    have h1 : ((i : Int) < 8) := by omega
    have h2 : ¬ ((k : Int) = 0) := by omega
    have h3 : xs.length + 1 ≤ 140737488355328 := by omega
    have h4 : IntKind.wrap .u64 (Int.tdiv (k : Int) 256) = ((k' : Nat) : Int) := by
      rw [Int.tdiv_eq_ediv_of_nonneg (by omega), ← hk']
      have : ((k : Int) / 256) = ((k / 256 : Nat) : Int) := by omega
      rw [this, wu64 (by omega)]
    have h5 : IntKind.wrap .i64 ((i : Int) + 1) = ((i + 1 : Nat) : Int) := w64s (by omega)
    rw [decide_eq_true h1, decide_eq_false h2, decide_eq_true h3, h4, h5, byte k hk]
    exact h
  refine step 72057594037927936 0 281474976710656 _ _ (by omega) (by omega) (by omega) (by omega) (by omega) ?_
  refine step 281474976710656 1 1099511627776 _ _ (by omega) (by omega) (by omega) (by omega) (by simp; omega) ?_
  refine step 1099511627776 2 4294967296 _ _ (by omega) (by omega) (by omega) (by omega) (by simp; omega) ?_
  refine step 4294967296 3 16777216 _ _ (by omega) (by omega) (by omega) (by omega) (by simp; omega) ?_
  refine step 16777216 4 65536 _ _ (by omega) (by omega) (by omega) (by omega) (by simp; omega) ?_
  refine step 65536 5 256 _ _ (by omega) (by omega) (by omega) (by omega) (by simp; omega) ?_
  refine step 256 6 1 _ _ (by omega) (by omega) (by omega) (by omega) (by simp; omega) ?_
  refine step 1 7 0 _ _ (by omega) (by omega) (by omega) (by omega) (by simp; omega) ?_
  refine (m8 _).trans ?_
  simp [num8]
theorem s18 {u : U} {l : Bs} (hu : Is bU u l) (hl : l.length ≤ 20000) : Fi K 18 [u] = some (.ofL false ((frame l).map bU)) := by
  refine e18 _ ?_
  have e1 : IntKind.wrap .u8 (IntKind.wrap .i64 (Int.tdiv ((u.len : Nat) : Int) 256)) = ((b8 (l.length / 256)).toNat : Int) := by
    rw [hu.len, Int.tdiv_eq_ediv_of_nonneg (by omega)]
    have : ((l.length : Int) / 256) = ((l.length / 256 : Nat) : Int) := by omega
    rw [this, w64n (by omega)]
    simp [IntKind.wrap, IntKind.signed, IntKind.bits, b8]
  have e2 : IntKind.wrap .u8 (Int.tmod ((u.len : Nat) : Int) 256) = ((b8 (l.length / 1)).toNat : Int) := by
    rw [hu.len, Int.tmod_eq_emod_of_nonneg (by omega)]
    simp [IntKind.wrap, IntKind.signed, IntKind.bits, b8]
  have e3 : ([(U.I (IntKind.wrap .u8 (IntKind.wrap .i64 (Int.tdiv ((u.len : Nat) : Int) 256)))), (U.I (IntKind.wrap .u8 (Int.tmod ((u.len : Nat) : Int) 256)))] ++ u.toL) = (head2 l).map bU := by
    rw [e1, e2, hu.toL]
    simp [head2, num2, bU]
  rw [e3]
  have h1 : 2 + u.toL.length ≤ 140737488355328 := by rw [hu.toL]; simp; omega
  rw [decide_eq_true h1, s12 (Is.mk' bU false (head2 l)) (by rw [head2_len]; omega)]
  simp only [cond_true, Option.bind_some, toI_I]
  rw [l18 _ (sum_lt _) _ (by rw [List.length_map, head2_len]; omega)]
  simp only [loK_some_brk, nth_zero, toB_B, Bool.false_and, nthL_zero, ← List.map_append]
  rfl
end Go.Proofs.Ytakanjmdnbjipaa
