/- Length, Read, Repair, Append; the reference's records. -/
import Derived.Test.YtakanjmdnbjipaaCPc
set_option linter.unusedVariables false
set_option linter.unusedSimpArgs false
namespace Go.Proofs.Ytakanjmdnbjipaa
open Go.Ab
set_option linter.unusedVariables false
set_option linter.unusedSimpArgs false
set_option maxRecDepth 100000

def lastP : List (Nat × Bs) → Nat → Nat
  | [], d => d
  | p :: ps, _ => lastP ps p.1
def endOf (l : Bs) : Nat := lastP (recs l) 0
theorem l21 : ∀ (its : List U) (ps : List (Nat × Bs)) (d : Nat), Items its ps → Lp K 21 0 ⟨[.I ((28 : Nat) : Int), .I (d : Nat)], [its]⟩ = some (.brk ⟨[.B false, .I (lastP ps d : Nat)], []⟩)
  | [], [], d, _ => l21_0n _ rfl
  | x :: xs, p :: ps, d, ⟨h1, h2, h3⟩ => l21_0c x xs _ (by rw [h1]; exact l21 xs ps p.1 h3)
  | [], _ :: _, _, h => h.elim
  | _ :: _, [], _, h => h.elim
theorem s24 (u : U) : Fi K 24 [u] = some (.C 28 1 (U.nth [u])) := e24 u rfl
theorem s21 {u : U} {l : Bs} (hu : BI u l) (hl : l.length ≤ 1000000) : Fi K 21 [u] = some (.I (endOf l : Nat)) := by
  obtain ⟨its, q1, q2⟩ := y28' hu hl
  refine e21 u ?_
  rw [s24]
  simp only [Option.bind_some, q1]
  have := l21 its (recs l) 0 q2
  have e : Lp K 21 0 ⟨[(U.I (((U.C 28 1 (U.nth [u])).fid : Nat) : Int)), (U.I 0)], [its]⟩ = _ := this
  rw [e]
  rfl
theorem allR_le : ∀ (f : Nat) (l : Bs) (k d : Nat), k ≤ l.length → d ≤ l.length → lastP (allR f l k) d ≤ l.length
  | 0, l, k, d, h, hd => hd
  | f + 1, l, k, d, h, hd => by
    unfold allR
    obtain ⟨n1, _⟩ := nn_le (l.drop k)
    rw [List.length_drop] at n1
    cases hz : decide (nn (l.drop k) = 0) with
    | true => exact hd
    | false => exact allR_le f l _ _ (by omega) (by show k + _ ≤ _; omega)
theorem endOf_le (l : Bs) : endOf l ≤ l.length := allR_le _ l 0 0 (by omega) (by omega)
/-- lists of records -/
def RL : List U → List Bs → Prop
  | [], [] => True
  | x :: xs, r :: rs => BI x r ∧ RL xs rs
  | _, _ => False
theorem RL.app : ∀ {xs ys : List U} {rs ss : List Bs}, RL xs rs → RL ys ss → RL (xs ++ ys) (rs ++ ss)
  | [], _, [], _, _, h => h
  | x :: xs, _, r :: rs, _, h, k => ⟨h.1, RL.app h.2 k⟩
  | [], _, _ :: _, _, h, _ => h.elim
  | _ :: _, _, [], _, h, _ => h.elim
theorem RL.len : ∀ {xs : List U} {rs : List Bs}, RL xs rs → xs.length = rs.length
  | [], [], _ => rfl
  | x :: xs, r :: rs, h => by simp [RL.len h.2]
  | [], _ :: _, h => h.elim
  | _ :: _, [], h => h.elim
theorem RL.get : ∀ {xs : List U} {rs : List Bs}, RL xs rs → ∀ i, i < rs.length → BI (U.nth xs i) (rs.getD i [])
  | x :: xs, r :: rs, h, 0, _ => h.1
  | x :: xs, r :: rs, h, i + 1, hi => by simpa [U.nth] using RL.get h.2 i (by simpa using hi)
  | [], [], _, i, hi => by simp at hi
  | [], _ :: _, h, _, _ => h.elim
  | _ :: _, [], h, _, _ => h.elim
theorem RL.take : ∀ {xs : List U} {rs : List Bs} (n : Nat), RL xs rs → RL (xs.take n) (rs.take n)
  | [], [], n, _ => by simp [RL]
  | x :: xs, r :: rs, 0, h => by simp [RL]
  | x :: xs, r :: rs, n + 1, h => ⟨h.1, RL.take n h.2⟩
  | [], _ :: _, _, h => h.elim
  | _ :: _, [], _, h => h.elim
theorem items_len : ∀ {its : List U} {ps : List (Nat × Bs)}, Items its ps → its.length = ps.length
  | [], [], _ => rfl
  | _ :: xs, _ :: ps, h => by simp [items_len h.2.2]
  | [], _ :: _, h => h.elim
  | _ :: _, [], h => h.elim
theorem allR_len : ∀ (f : Nat) (l : Bs) (k : Nat), k ≤ l.length → k + 10 * (allR f l k).length ≤ l.length ∧ ∀ p ∈ allR f l k, p.2.length ≤ l.length
  | 0, l, k, h => by simp [allR]; exact h
  | f + 1, l, k, h => by
    unfold allR
    obtain ⟨n1, n2⟩ := nn_le (l.drop k)
    rw [List.length_drop] at n1
    cases hz : decide (nn (l.drop k) = 0) with
    | true => simp; exact h
    | false =>
      have hz := of_decide_eq_false hz
      obtain ⟨i1, i2⟩ := allR_len f l (k + nn (l.drop k)) (by omega)
      refine ⟨by simp; omega, fun p hp => ?_⟩
      rcases List.mem_cons.1 hp with rfl | hp
      · show (nr (l.drop k)).length ≤ _
        unfold nr nxt
        cases okN (l.drop k) with
        | false => simp
        | true => simp; omega
      · exact i2 p hp
theorem l8 : ∀ (its : List U) (ps : List (Nat × Bs)) (d : Nat) (xs : List U) (rs : List Bs), Items its ps → RL xs rs → (∀ p ∈ ps, p.2.length ≤ 1000000) → xs.length + ps.length ≤ 1000000 →
    ∃ ys, RL ys (rs ++ ps.map (·.2)) ∧ Lp K 8 0 ⟨[.I ((28 : Nat) : Int), .I 0, .I 0, .B true, .I (d : Nat)], [its, xs]⟩ = some (.brk ⟨[.B false, .I 0, .I 0, .B true, .I (lastP ps d : Nat)], [ys]⟩)
  | [], [], d, xs, rs, _, hr, _, _ => ⟨xs, by simpa using hr, l8_0n _ _ _ _ _ rfl⟩
  | x :: its, p :: ps, d, xs, rs, ⟨h1, h2, h3⟩, hr, hp, hl => by
    obtain ⟨v, q1, q2⟩ := s25 h2 (hp p (by simp))
    obtain ⟨ys, y1, y2⟩ := l8 its ps p.1 (xs ++ [v]) (rs ++ [p.2]) h3 (hr.app ⟨q2, trivial⟩) (fun q hq => hp q (by simp [hq])) (by simp at hl ⊢; omega)
    refine ⟨ys, by simpa using y1, l8_0c x its _ _ _ _ _ ?_⟩
    have h4 : xs.length + 1 ≤ 5864062014805 := by simp at hl; omega
    rw [q1, h1]
    simp only [Option.bind_some, decide_eq_true h4, cond_true, y2]
    rfl
  | [], _ :: _, _, _, _, h, _, _, _ => h.elim
  | _ :: _, [], _, _, _, h, _, _, _ => h.elim
def f2 (a b : Int) : U := .ofL false [.I a, .I b]
theorem s20 {u : U} {l : Bs} (hu : BI u l) : Fi K 20 [u] = some (bif decide ((400000 : Int) < (l.length : Int)) then f2 1 (-1) else f2 0 0) := by
  refine e20 u ?_
  rw [hu.is.len]
  cases decide ((400000 : Int) < (l.length : Int)) <;> rfl
theorem s8 {u : U} {l : Bs} (hu : BI u l) (hl : l.length ≤ 400000) : ∃ ys, RL ys ((recs l).map (·.2)) ∧ Fi K 8 [u] = some (.ofL false [.ofL ys.isEmpty ys, .I (endOf l : Nat), f2 0 0]) := by
  obtain ⟨its, q1, q2⟩ := y28' hu (by omega)
  obtain ⟨a1, a2⟩ := allR_len (l.length + 1) l 0 (by omega)
  obtain ⟨ys, y1, y2⟩ := l8 its (recs l) 0 [] [] q2 trivial (fun p hp => by have := a2 p hp; omega) (by unfold recs; simp; omega)
  refine ⟨ys, by simpa using y1, e8 u ?_⟩
  have h1 : ¬ ((400000 : Int) < (l.length : Int)) := by omega
  rw [s20 hu, decide_eq_false h1, s24]
  simp only [cond_false, Option.bind_some, f2, get_ofL', nth_zero, nth_succ, toI_I, decide_true, Bool.and_self, Bool.not_true, q1]
  have e : Lp K 8 0 ⟨[(U.I (((U.C 28 1 (U.nth [u])).fid : Nat) : Int)), (U.I 0), (U.I 0), (U.B true), (U.I 0)], [its, []]⟩ = _ := y2
  rw [e]
  rfl
theorem s8x {u : U} {l : Bs} (hu : BI u l) (hl : 400000 < l.length) : Fi K 8 [u] = some (.ofL false [.nil, .I 0, f2 1 (-1)]) := by
  refine e8 u ?_
  have h1 : ((400000 : Int) < (l.length : Int)) := by omega
  rw [s20 hu, decide_eq_true h1]
  rfl
theorem s9 {u : U} {l : Bs} (hu : BI u l) (hl : l.length ≤ 400000) : ∃ v, BI v (l.take (endOf l)) ∧ Fi K 9 [u] = some (.ofL false [v, f2 0 0]) := by
  have he := endOf_le l
  have hs := hu.sub (a := 0) (b := endOf l) he
  rw [List.drop_zero] at hs
  obtain ⟨v, v1, v2⟩ := s25 hs (by simp; omega)
  refine ⟨v, v2, e9 u ?_⟩
  have h1 : ¬ ((400000 : Int) < (l.length : Int)) := by omega
  have h2 : (0 : Int) ≤ (endOf l : Int) := by omega
  have h3 : (endOf l : Int) ≤ (l.length : Int) := by omega
  rw [s20 hu, decide_eq_false h1, s21 hu (by omega)]
  simp only [cond_false, Option.bind_some, f2, get_ofL', nth_zero, nth_succ, toI_I, decide_true, Bool.and_self, Bool.not_true, hu.is.len, h2, h3, cond_true, Int.toNat_natCast, v1]
theorem s9x {u : U} {l : Bs} (hu : BI u l) (hl : 400000 < l.length) : Fi K 9 [u] = some (.ofL false [.nil, f2 1 (-1)]) := by
  refine e9 u ?_
  have h1 : ((400000 : Int) < (l.length : Int)) := by omega
  rw [s20 hu, decide_eq_true h1]
  rfl
/-! slices.Concat of two -/
theorem s26 {n : Nat} (hn : n ≤ 140737488355328) : Fi K 26 [.nil, .I (n : Nat)] = some (bif decide ((n : Int) = 0) then .nil else .ofL false []) := by
  refine Fi_prim (C := K) (f := growU 140737488355328) rfl ?_
  have h1 : (0 : Int) ≤ (n : Int) := by omega
  show (bif U.nil.isNil && decide ((0 : Int) ≤ (n : Int)) && Nat.ble ((n : Int)).toNat 140737488355328 then _ else none) = _
  rw [decide_eq_true h1, Int.toNat_natCast, Nat.ble_eq_true_of_le hn]
  rfl
theorem s22 {u v : U} {l m : Bs} (hu : BI u l) (hv : BI v m) (hl : l.length ≤ 1000000) (hm : m.length ≤ 1000000) (h0 : 0 < m.length) : Fi K 22 [.ofL false [u, v]] = some (.ofL false ((l ++ m).map bU)) := by
  refine e22 _ ?_
  have z0 : (0 : Int) ≤ (l.length : Int) := by omega
  have lp1 : Lp K 22 0 ⟨[.ofL false [u, v], .I 0, .ofL false [u, v], .I ((2 : Nat) : Int), .I 0], []⟩ = some (.brk ⟨[.ofL false [u, v], .I (l.length + m.length : Nat)], []⟩) := by
    have st : ∀ (a : Nat) (i : Nat) (n : Nat) (o : LO), i < 2 → (U.nth [u, v] i).len = n → a + n ≤ 3000000 → Lp K 22 0 ⟨[.ofL false [u, v], .I ((a + n : Nat) : Int), .ofL false [u, v], .I ((2 : Nat) : Int), .I ((i + 1 : Nat) : Int)], []⟩ = some o → Lp K 22 0 ⟨[.ofL false [u, v], .I (a : Nat), .ofL false [u, v], .I ((2 : Nat) : Int), .I (i : Nat)], []⟩ = some o := by
      intro a i n o hi hn ha h
      refine l22_0 _ _ _ _ _ ?_
      have h1 : ((i : Int) < ((2 : Nat) : Int)) := by omega
      have h2 : (0 : Int) ≤ (i : Int) := by omega
      have h3 : IntKind.wrap .i64 ((a : Int) + (((U.nth [u, v] i).len : Nat) : Int)) = ((a + n : Nat) : Int) := by rw [hn, w64 (by omega) (by omega)]; omega
      have h4 : ¬ (((a + n : Nat) : Int) < 0) := by omega
      have h5 : IntKind.wrap .i64 ((i : Int) + 1) = ((i + 1 : Nat) : Int) := w64s (by omega)
      have h6 : ((i : Int) < (((U.ofL false [u, v]).len : Nat) : Int)) := h1
      rw [decide_eq_true h1, decide_eq_true h2, decide_eq_true h6]
      simp only [cond_true, Bool.and_self, Int.toNat_natCast, get_ofL', h3, h4, decide_false, cond_false, loK_some_brk, nth_zero, nth_succ, toI_I, h5]
      exact h
    refine st 0 0 l.length _ (by omega) hu.is.len (by omega) ?_
    refine st _ 1 m.length _ (by omega) hv.is.len (by omega) ?_
    refine l22_0 _ _ _ _ _ ?_
    simp
  have lp2 : Lp K 22 2 ⟨[.B false, .ofL false [u, v], .I ((2 : Nat) : Int), .I 0], [[]]⟩ = some (.brk ⟨[.B false], [(l ++ m).map bU]⟩) := by
    have st : ∀ (xs : Bs) (i : Nat) (ys : Bs) (o : LO), i < 2 → BI (U.nth [u, v] i) ys → xs.length + ys.length ≤ 3000000 → Lp K 22 2 ⟨[.B false, .ofL false [u, v], .I ((2 : Nat) : Int), .I ((i + 1 : Nat) : Int)], [(xs ++ ys).map bU]⟩ = some o → Lp K 22 2 ⟨[.B false, .ofL false [u, v], .I ((2 : Nat) : Int), .I (i : Nat)], [xs.map bU]⟩ = some o := by
      intro xs i ys o hi hy hlen h
      refine l22_2 _ _ _ _ _ ?_
      have h1 : ((i : Int) < ((2 : Nat) : Int)) := by omega
      have h2 : (0 : Int) ≤ (i : Int) := by omega
      have h5 : IntKind.wrap .i64 ((i : Int) + 1) = ((i + 1 : Nat) : Int) := w64s (by omega)
      have h6 : ((i : Int) < (((U.ofL false [u, v]).len : Nat) : Int)) := h1
      have h7 : (xs.map bU).length + (ys.map bU).length ≤ 140737488355328 := by simp; omega
      rw [decide_eq_true h1, decide_eq_true h2, decide_eq_true h6]
      simp only [cond_true, Bool.and_self, Int.toNat_natCast, get_ofL', hy.is.toL, h7, decide_true, h5, ← List.map_append]
      exact h
    refine st [] 0 l _ (by omega) hu (by simp; omega) ?_
    refine st _ 1 m _ (by omega) hv (by simp; omega) ?_
    refine l22_2 _ _ _ _ _ ?_
    simp
  have e1 : Lp K 22 0 ⟨[(U.ofL false [u, v]), (U.I 0), (U.ofL false [u, v]), (U.I (((U.ofL false [u, v]).len : Nat) : Int)), (U.I 0)], []⟩ = _ := lp1
  rw [e1]
  simp only [loK_some_brk, nth_zero, nth_succ, toI_I]
  have h1 : ¬ (((l.length + m.length : Nat) : Int) = 0) := by omega
  rw [s26 (by omega), decide_eq_false h1]
  simp only [cond_false, Option.bind_some, isNil_ofL', toL_ofL', len_ofL']
  have e2 : Lp K 22 2 ⟨[(U.B false), (U.ofL false [u, v]), (U.I (([u, v].length : Nat) : Int)), (U.I 0)], [[]]⟩ = _ := lp2
  rw [e2]
  rfl
/-- what Append says -/
def fApp (l r : Bs) : Int × Int :=
  bif decide (400000 < l.length) then (1, -1) else bif decide (endOf l < l.length) then (16, -2) else bif decide (20000 < r.length) then (1, -3) else bif decide (400000 < l.length + r.length + 10) then (13, -1) else (0, 0)
theorem s7 {u v : U} {l r : Bs} (hu : BI u l) (hv : BI v r) (hr : r.length ≤ 140737488355328) : ∃ x, Fi K 7 [u, v] = some (.ofL false [x, f2 (fApp l r).1 (fApp l r).2]) ∧ ((fApp l r).1 = 0 → x = .ofL false ((l ++ frame r).map bU)) ∧ ((fApp l r).1 ≠ 0 → x = .nil) := by
  by_cases h1 : 400000 < l.length
  · have h1' : ((400000 : Int) < (l.length : Int)) := by omega
    refine ⟨.nil, e7 _ _ ?_, fun h => ?_, fun _ => rfl⟩
    · rw [s20 hu, decide_eq_true h1']
      unfold fApp; rw [decide_eq_true h1]; rfl
    · unfold fApp at h; rw [decide_eq_true h1] at h; cases h
  · have h1' : ¬ ((400000 : Int) < (l.length : Int)) := by omega
    by_cases h2 : endOf l < l.length
    · have h2' : ((endOf l : Int) < (l.length : Int)) := by omega
      refine ⟨.nil, e7 _ _ ?_, fun h => ?_, fun _ => rfl⟩
      · rw [s20 hu, decide_eq_false h1', s21 hu (by omega)]
        simp only [cond_false, Option.bind_some, f2, get_ofL', nth_zero, nth_succ, toI_I, decide_true, Bool.and_self, Bool.not_true, hu.is.len, h2', decide_true, cond_true]
        unfold fApp; rw [decide_eq_false h1, decide_eq_true h2]; rfl
      · unfold fApp at h; rw [decide_eq_false h1, decide_eq_true h2] at h; cases h
    · have h2' : ¬ ((endOf l : Int) < (l.length : Int)) := by omega
      by_cases h3 : 20000 < r.length
      · have h3' : ((20000 : Int) < (r.length : Int)) := by omega
        refine ⟨.nil, e7 _ _ ?_, fun h => ?_, fun _ => rfl⟩
        · rw [s20 hu, decide_eq_false h1', s21 hu (by omega)]
          simp only [cond_false, Option.bind_some, f2, get_ofL', nth_zero, nth_succ, toI_I, decide_true, Bool.and_self, Bool.not_true, hu.is.len, hv.is.len, h2', decide_false, h3', decide_true, cond_true]
          unfold fApp; rw [decide_eq_false h1, decide_eq_false h2, decide_eq_true h3]; rfl
        · unfold fApp at h; rw [decide_eq_false h1, decide_eq_false h2, decide_eq_true h3] at h; cases h
      · have h3' : ¬ ((20000 : Int) < (r.length : Int)) := by omega
        have hw : IntKind.wrap .i64 ((IntKind.wrap .i64 ((IntKind.wrap .i64 ((l.length : Int) + 2)) + (r.length : Int))) + 8) = ((l.length + r.length + 10 : Nat) : Int) := by
          rw [w64 (n := (l.length : Int) + 2) (by omega) (by omega), w64 (n := (l.length : Int) + 2 + (r.length : Int)) (by omega) (by omega), w64 (by omega) (by omega)]
          omega
        by_cases h4 : 400000 < l.length + r.length + 10
        · have h4' : ((400000 : Int) < ((l.length + r.length + 10 : Nat) : Int)) := by omega
          refine ⟨.nil, e7 _ _ ?_, fun h => ?_, fun _ => rfl⟩
          · rw [s20 hu, decide_eq_false h1', s21 hu (by omega)]
            simp only [cond_false, Option.bind_some, f2, get_ofL', nth_zero, nth_succ, toI_I, decide_true, Bool.and_self, Bool.not_true, hu.is.len, hv.is.len, h2', decide_false, h3', decide_false, hw, h4', decide_true, cond_true]
            unfold fApp; rw [decide_eq_false h1, decide_eq_false h2, decide_eq_false h3, decide_eq_true h4]; rfl
          · unfold fApp at h; rw [decide_eq_false h1, decide_eq_false h2, decide_eq_false h3, decide_eq_true h4] at h; cases h
        · have h4' : ¬ ((400000 : Int) < ((l.length + r.length + 10 : Nat) : Int)) := by omega
          have hf := s23 hv.is (by omega)
          have hc := s22 hu (BI.mk' (frame r)) (by omega) (by rw [frame_len]; omega) (by rw [frame_len]; omega)
          refine ⟨.ofL false ((l ++ frame r).map bU), e7 _ _ ?_, fun _ => rfl, fun h => ?_⟩
          · rw [s20 hu, decide_eq_false h1', s21 hu (by omega)]
            simp only [cond_false, Option.bind_some, f2, get_ofL', nth_zero, nth_succ, toI_I, decide_true, Bool.and_self, Bool.not_true, hu.is.len, hv.is.len, h2', decide_false, h3', decide_false, hw, h4', decide_false, loK_some_brk, hf, hc, isNil_ofL', toL_ofL', Bool.false_and]
            unfold fApp; rw [decide_eq_false h1, decide_eq_false h2, decide_eq_false h3, decide_eq_false h4]; rfl
          · unfold fApp at h; rw [decide_eq_false h1, decide_eq_false h2, decide_eq_false h3, decide_eq_false h4] at h; exact (h rfl).elim
end Go.Proofs.Ytakanjmdnbjipaa
