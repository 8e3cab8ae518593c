/- The four laws, in plain Lean. -/
import Derived.Test.YtakanjmdnbjipaaCPf
set_option linter.unusedVariables false
set_option linter.unusedSimpArgs false
namespace Go.Proofs.Ytakanjmdnbjipaa
open Go.Ab
set_option linter.unusedVariables false
set_option linter.unusedSimpArgs false
set_option maxRecDepth 100000

theorem p3 {u v : U} {l r : Bs} (hu : BI u l) (hv : BI v r) (hl : l.length ≤ 140737488355328) (hr : r.length ≤ 140737488355328) : Fi K 3 [u, v] = some (.B true) := by
  obtain ⟨x, x1, x2, x3⟩ := s7 hu hv hr
  have q11 := s11 hv.is (by omega)
  have q12 := s12 hv.is (by omega)
  refine e3 _ _ ?_
  by_cases h1 : 400000 < l.length
  · have h1' : ((400000 : Int) < (l.length : Int)) := by omega
    have hf : fApp l r = (1, -1) := by unfold fApp; rw [decide_eq_true h1]; rfl
    rw [hf] at x1 x3
    have hx := x3 (by decide)
    subst hx
    have q13 := s13 hu
    rw [decide_eq_true h1'] at q13
    simp only [x1, s8x hu h1, s9x hu h1, s10, q11, q12, q13, Option.bind_some, toB_B, Bool.not_true, Bool.not_false, cond_true, toI_I, decide_true, Bool.or_self, cond_false, f2, get_ofL', nth_zero, nth_succ, Bool.and_self, len_nil', Int.natCast_zero]
    rfl
  · have h1' : ¬ ((400000 : Int) < (l.length : Int)) := by omega
    have q13 := s13 hu
    rw [decide_eq_false h1'] at q13
    obtain ⟨ys, y1, y2⟩ := s8 hu (by omega)
    obtain ⟨w, w1, w2⟩ := s9 hu (by omega)
    obtain ⟨zs, z1, z2⟩ := s14 hu (by omega)
    have he := endOf_le l
    obtain ⟨a1, _⟩ := allR_len (l.length + 1) l 0 (by omega)
    have q15 := s15 (y1.ru ys.isEmpty) (z1.ru zs.isEmpty) (by simp [recs]; omega)
    rw [decide_eq_true rfl] at q15
    have hsub := hu.sub (a := 0) (b := endOf l) he
    rw [List.drop_zero] at hsub
    have q16 := s16 w1.is hsub.is
    rw [decide_eq_true rfl] at q16
    have b1 : (0 : Int) ≤ (endOf l : Int) := by omega
    have b2 : (endOf l : Int) ≤ (l.length : Int) := by omega
    simp only [x1, y2, w2, s10, q11, q12, q13, Option.bind_some, toB_B, Bool.not_true, Bool.not_false, cond_true, toI_I, decide_true, Bool.or_self, cond_false, f2, get_ofL', nth_zero, nth_succ, Bool.and_self, z2, q15, q16, hu.is.len, hv.is.len, b1, b2, Int.toNat_natCast, s17]
    by_cases h2 : endOf l < l.length
    · have h2' : (endOf l : Int) < (l.length : Int) := by omega
      have hf : fApp l r = (16, -2) := by unfold fApp; rw [decide_eq_false h1, decide_eq_true h2]; rfl
      rw [hf] at x3
      have hx := x3 (by decide)
      subst hx
      simp only [hf, h2', decide_true, cond_true, Option.bind_some, loK_some_brk]
      rfl
    · have h2' : ¬ ((endOf l : Int) < (l.length : Int)) := by omega
      by_cases h3 : 20000 < r.length
      · have h3' : ((20000 : Int) < (r.length : Int)) := by omega
        have hf : fApp l r = (1, -3) := by unfold fApp; rw [decide_eq_false h1, decide_eq_false h2, decide_eq_true h3]; rfl
        rw [hf] at x3
        have hx := x3 (by decide)
        subst hx
        simp only [hf, h2', h3', decide_true, decide_false, cond_true, cond_false, Option.bind_some, loK_some_brk]
        rfl
      · have h3' : ¬ ((20000 : Int) < (r.length : Int)) := by omega
        have hw : IntKind.wrap .i64 ((IntKind.wrap .i64 ((l.length : Int) + (r.length : Int))) + 10) = ((l.length + r.length + 10 : Nat) : Int) := by
          rw [w64 (n := (l.length : Int) + (r.length : Int)) (by omega) (by omega), w64 (by omega) (by omega)]; omega
        by_cases h4 : 400000 < l.length + r.length + 10
        · have h4' : ((400000 : Int) < ((l.length + r.length + 10 : Nat) : Int)) := by omega
          have hf : fApp l r = (13, -1) := by unfold fApp; rw [decide_eq_false h1, decide_eq_false h2, decide_eq_false h3, decide_eq_true h4]; rfl
          rw [hf] at x3
          have hx := x3 (by decide)
          subst hx
          simp only [hf, h2', h3', hw, h4', decide_true, decide_false, cond_true, cond_false, Option.bind_some, loK_some_brk]
          rfl
        · have h4' : ¬ ((400000 : Int) < ((l.length + r.length + 10 : Nat) : Int)) := by omega
          have hf : fApp l r = (0, 0) := by unfold fApp; rw [decide_eq_false h1, decide_eq_false h2, decide_eq_false h3, decide_eq_false h4]; rfl
          rw [hf] at x2
          have hx := x2 rfl
          subst hx
          have q18 := s18 hv.is (by omega)
          have n1 : (l.map bU).length ≤ 140737488355328 := by rw [List.length_map]; exact hl
          have n2 : (l.map bU).length + ((frame r).map bU).length ≤ 140737488355328 := by rw [List.length_map, List.length_map, frame_len]; omega
          have q16' := s16 (Is.mk' bU false (l ++ frame r)) (BI.mke (l ++ frame r)).is
          rw [decide_eq_true rfl] at q16'
          simp only [hf, h2', h3', hw, h4', decide_true, decide_false, cond_true, cond_false, Option.bind_some, loK_some_brk, nth_zero, nth_succ, toI_I, Bool.not_true, hu.is.toL, n1, q18, toL_ofL', n2, ← List.map_append, q16', toB_B]
          rfl

theorem p4 {u v : U} {l r : Bs} (hu : BI u l) (hv : BI v r) (hl : l.length ≤ 140737488355328) (hr : r.length ≤ 140737488355328) (c : Int) : Fi K 4 [u, v, .I c] = some (.B true) := by
  obtain ⟨x, x1, x2, x3⟩ := s7 hu hv hr
  refine e4 _ _ _ ?_
  by_cases hf : (fApp l r).1 = 0
  · have hx := x2 hf
    subst hx
    have hlim : l.length ≤ 400000 ∧ endOf l = l.length ∧ r.length ≤ 20000 ∧ l.length + r.length + 10 ≤ 400000 := by
      have he := endOf_le l
      by_cases h1 : 400000 < l.length
      · unfold fApp at hf; rw [decide_eq_true h1] at hf; cases hf
      by_cases h2 : endOf l < l.length
      · unfold fApp at hf; rw [decide_eq_false h1, decide_eq_true h2] at hf; cases hf
      by_cases h3 : 20000 < r.length
      · unfold fApp at hf; rw [decide_eq_false h1, decide_eq_false h2, decide_eq_true h3] at hf; cases hf
      by_cases h4 : 400000 < l.length + r.length + 10
      · unfold fApp at hf; rw [decide_eq_false h1, decide_eq_false h2, decide_eq_false h3, decide_eq_true h4] at hf; cases hf
      omega
    obtain ⟨g1, g2, g3, g4⟩ := hlim
    have hlen : (l ++ frame r).length = l.length + r.length + 10 := by rw [List.length_append, frame_len]; omega
    have hlm : ((l ++ frame r).map bU).length = l.length + r.length + 10 := by rw [List.length_map, hlen]
    by_cases hin : (l.length : Int) ≤ c ∧ c ≤ ((l.length + r.length + 10 : Nat) : Int)
    · obtain ⟨c1, c2⟩ := hin
      obtain ⟨k, rfl⟩ : ∃ k : Nat, c = ((l.length + k : Nat) : Int) := ⟨c.toNat - l.length, by omega⟩
      have hk : k ≤ r.length + 10 := by omega
      have c0 : (0 : Int) ≤ ((l.length + k : Nat) : Int) := by omega
      have hcut := recs_cut l r k g2 g3 hk
      have ht : (l ++ frame r).take (l.length + k) = l ++ (frame r).take k := List.take_length_add_append k
      have hB : BI ((U.ofL false ((l ++ frame r).map bU)).sub 0 (l.length + k)) (l ++ (frame r).take k) := by
        have := (BI.mk' (l ++ frame r)).sub (a := 0) (b := l.length + k) (by rw [hlen]; omega)
        rwa [List.drop_zero, ht] at this
      have hlk : (l ++ (frame r).take k).length = l.length + k := by rw [List.length_append, List.length_take, frame_len]; omega
      obtain ⟨ys, y1, y2⟩ := s8 hu (by omega)
      obtain ⟨zs, z1, z2⟩ := s8 hB (by omega)
      have hyl := y1.len
      have hzl := z1.len
      rw [List.length_map] at hyl hzl
      obtain ⟨a1, _⟩ := allR_len (l.length + 1) l 0 (by omega)
      have hrl : (recs l).length ≤ 100000 := by unfold recs; omega
      have hpre : zs.length = ys.length + (bif decide (k = r.length + 10) then 1 else 0) := by
        rw [hzl, hcut, List.length_append, hyl]
        cases decide (k = r.length + 10) <;> rfl
      have b1 : (0 : Int) ≤ (ys.length : Int) := by omega
      have b2 : (ys.length : Int) ≤ (zs.length : Int) := by omega
      have b3 : ¬ ((zs.length : Int) < (ys.length : Int)) := by omega
      have hpre2 : (recs (l ++ (frame r).take k)).map (·.2) = (recs l).map (·.2) ++ (bif decide (k = r.length + 10) then [r] else []) := by
        rw [hcut, List.map_append]
        cases decide (k = r.length + 10) <;> rfl
      have hyr := y1.ru ys.isEmpty
      have hzr := z1.ru zs.isEmpty
      have hzt : RU ((U.ofL zs.isEmpty zs).sub 0 ys.length) ((recs l).map (·.2)) := by
        have := hzr.take (n := ys.length) (by rw [hpre2, List.length_append, List.length_map]; omega)
        rw [hpre2, List.take_left' (by rw [List.length_map]; omega)] at this
        exact this
      have q15 := s15 hzt hyr (by rw [List.length_map]; omega)
      rw [decide_eq_true rfl] at q15
      have hend : endOf (l ++ (frame r).take k) = bif decide (k = r.length + 10) then l.length + (r.length + 10) else l.length := by
        unfold endOf
        rw [hcut, lastP_app]
        cases decide (k = r.length + 10)
        · exact g2
        · rfl
      have hw : IntKind.wrap .i64 ((ys.length : Int) + 1) = ((ys.length + 1 : Nat) : Int) := w64s (by omega)
      have e1 : ((l.length + k : Nat) : Int) ≤ ((l.length + r.length + 10 : Nat) : Int) := by omega
      have q19 : Fi K 19 [.I ((l.length + k : Nat) : Int), .I (l.length : Nat), .I ((l.length + r.length + 10 : Nat) : Int)] = some (.B true) := by
        rw [s19, decide_eq_true c1, decide_eq_true e1]; rfl
      simp only [s10, Option.bind_some, toB_B, Bool.not_true, Bool.not_false, cond_true, cond_false, x1, get_ofL', nth_zero, nth_succ, f2, toI_I, hf, decide_true, len_ofL', hlm, hu.is.len, q19, y2, c0, e1, Bool.and_self, Bool.or_self, Int.toNat_natCast, z2, b1, b2, b3, decide_false, Bool.true_or, Bool.false_or, q15, hend, hw]
      by_cases hkk : k = r.length + 10
      · rw [decide_eq_true hkk] at hpre
        have d1 : ((l.length + k : Nat) : Int) = ((l.length + r.length + 10 : Nat) : Int) := by omega
        have d2 : ((zs.length : Nat) : Int) = ((ys.length + 1 : Nat) : Int) := by rw [hpre]; rfl
        have d3 : ((l.length + (r.length + 10) : Nat) : Int) = ((l.length + k : Nat) : Int) := by omega
        have d4 : (ys.length : Int) < ((ys.length + 1 : Nat) : Int) := by omega
        have hrd : ((recs (l ++ (frame r).take k)).map (·.2)).getD ys.length [] = r := by
          rw [hpre2, decide_eq_true hkk, List.getD_eq_getElem?_getD, List.getElem?_append_right (by rw [List.length_map]; omega), List.length_map]
          rw [show ys.length - (recs l).length = 0 by omega]
          rfl
        have hg := hzr.get ys.length (by rw [List.length_map]; omega)
        rw [hrd] at hg
        have q16 : Fi K 16 [U.nth zs ys.length, v] = _ := s16 hg.is hv.is
        rw [decide_eq_true rfl] at q16
        simp only [hkk, decide_true, cond_true]
        rw [hkk] at d1 d3
        simp only [d1, d2, d3, d4, decide_true, cond_true, Bool.and_self, Bool.true_or, q16, Option.bind_some, toB_B, b1]
      · rw [decide_eq_false hkk] at hpre
        have d1 : ¬ (((l.length + k : Nat) : Int) = ((l.length + r.length + 10 : Nat) : Int)) := by omega
        have d2 : ((zs.length : Nat) : Int) = ((ys.length : Nat) : Int) := by rw [hpre]; rfl
        simp only [hkk, decide_false, cond_false, d1, d2, decide_true, Bool.and_self]
    · have q19 : Fi K 19 [.I c, .I (l.length : Nat), .I ((l.length + r.length + 10 : Nat) : Int)] = some (.B false) := by
        rw [s19]
        have : (decide ((l.length : Int) ≤ c) && decide (c ≤ ((l.length + r.length + 10 : Nat) : Int))) = false := by
          rw [Bool.eq_false_iff]; intro h; apply hin; simpa using h
        rw [this]
      simp only [s10, Option.bind_some, toB_B, Bool.not_true, Bool.not_false, cond_true, cond_false, x1, get_ofL', nth_zero, nth_succ, f2, toI_I, hf, decide_true, len_ofL', hlm, hu.is.len, q19, Bool.or_true]
  · have hx := x3 hf
    subst hx
    simp only [s10, Option.bind_some, toB_B, Bool.not_true, cond_false, x1, get_ofL', nth_zero, nth_succ, f2, toI_I, hf, decide_false, Bool.not_false, Bool.true_or, cond_true]

theorem p5 {u v : U} {l r : Bs} (hu : BI u l) (hv : BI v r) (hr : r.length ≤ 140737488355328) : Fi K 5 [u, v] = some (.B true) := by
  refine e5 _ _ ?_
  by_cases h1 : 400000 < l.length
  · simp only [s10, s9x hu h1, Option.bind_some, toB_B, Bool.not_true, cond_false, cond_true, get_ofL', nth_zero, nth_succ, f2, toI_I, Int.reduceEq, decide_false, Bool.not_false, Bool.true_or]
    try rfl
  · have he := endOf_le l
    obtain ⟨w, w1, w2⟩ := s9 hu (by omega)
    have hwl : (l.take (endOf l)).length = endOf l := by simp; omega
    by_cases h2 : 1000 < r.length ∨ 390000 < endOf l
    · have hb : (decide ((1000 : Int) < (r.length : Int)) || decide ((390000 : Int) < (endOf l : Int))) = true := by
        simp only [Bool.or_eq_true, decide_eq_true_eq]; omega
      simp only [s10, w2, Option.bind_some, toB_B, Bool.not_true, cond_false, cond_true, get_ofL', nth_zero, nth_succ, f2, toI_I, decide_true, Bool.not_true, Bool.false_or, hv.is.len, w1.is.len, hwl, hb, Bool.or_true]
    · have b1 : ¬ ((1000 : Int) < (r.length : Int)) := by omega
      have b2 : ¬ ((390000 : Int) < (endOf l : Int)) := by omega
      obtain ⟨ys, y1, y2⟩ := s8 hu (by omega)
      obtain ⟨zs, z1, z2⟩ := s8 w1 (by omega)
      obtain ⟨r1, r2⟩ := recs_repair l
      rw [r1] at z1
      rw [r2, hwl] at z2
      obtain ⟨x, x1, x2, _⟩ := s7 w1 hv hr
      obtain ⟨a1, _⟩ := allR_len (l.length + 1) l 0 (by omega)
      have q15 := s15 (y1.ru ys.isEmpty) (z1.ru zs.isEmpty) (by simp [recs]; omega)
      rw [decide_eq_true rfl] at q15
      have hf : fApp (l.take (endOf l)) r = (0, 0) := by
        unfold fApp
        rw [r2, hwl, decide_eq_false (by omega), decide_eq_false (by omega), decide_eq_false (by omega), decide_eq_false (by omega)]
        rfl
      rw [hf] at x1
      simp only [s10, w2, Option.bind_some, toB_B, Bool.not_true, cond_false, cond_true, get_ofL', nth_zero, nth_succ, f2, toI_I, decide_true, Bool.not_true, Bool.false_or, hv.is.len, w1.is.len, hwl, b1, b2, decide_false, Bool.or_self, y2, z2, x1, Bool.and_self, q15]

theorem set_map {l : Bs} {i : Nat} {c : UInt8} : setUs (l.map bU) i (bU c) = (l.set i c).map bU := by
  induction l generalizing i with
  | nil => cases i <;> rfl
  | cons a l ih =>
    cases i with
    | zero => rfl
    | succ i => show bU a :: setUs (l.map bU) i (bU c) = _; rw [ih]; rfl
theorem nth_map {l : Bs} {i : Nat} (h : i < l.length) : (U.nth (l.map bU) i) = bU (l.getD i 0) := by
  induction l generalizing i with
  | nil => simp at h
  | cons a l ih =>
    cases i with
    | zero => rfl
    | succ i => exact ih (by simpa using h)
theorem xor8 (c : UInt8) (m : Nat) (hm : 1 ≤ m) (hm2 : m ≤ 255) : ∃ d : UInt8, U.I (ibit .xor .u8 (c.toNat : Int) (IntKind.wrap .u8 (m : Int))) = bU d ∧ d ≠ c := by
  have hw : IntKind.wrap .u8 (m : Int) = m := by
    simp [IntKind.wrap, IntKind.signed, IntKind.bits]; omega
  have e1 : BitVec.ofInt 8 (c.toNat : Int) = c.toBitVec := by
    apply BitVec.eq_of_toNat_eq; simp
  have e2 : BitVec.ofInt 8 (m : Int) = BitVec.ofNat 8 m := by simp
  refine ⟨⟨c.toBitVec ^^^ BitVec.ofNat 8 m⟩, ?_, ?_⟩
  · rw [hw]
    show U.I (IntKind.wrap .u8 (BitVec.ofInt 8 (c.toNat : Int) ^^^ BitVec.ofInt 8 (m : Int)).toNat) = U.I ((c.toBitVec ^^^ BitVec.ofNat 8 m).toNat : Int)
    rw [e1, e2]
    have := (c.toBitVec ^^^ BitVec.ofNat 8 m).isLt
    congr 1
    generalize (c.toBitVec ^^^ BitVec.ofNat 8 m).toNat = q at this
    simp [IntKind.wrap, IntKind.signed, IntKind.bits]; omega
  · intro h
    have h1 : c.toBitVec ^^^ BitVec.ofNat 8 m = c.toBitVec := congrArg UInt8.toBitVec h
    have h2 := congrArg (c.toBitVec ^^^ ·) h1
    have h3 : BitVec.ofNat 8 m = 0#8 := by simpa [← BitVec.xor_assoc] using h2
    have h4 := congrArg BitVec.toNat h3
    rw [BitVec.toNat_ofNat, BitVec.toNat_ofNat] at h4
    omega

theorem p6 {v : U} {r : Bs} (hv : BI v r) (hr : r.length ≤ 140737488355328) (i m : Int) : Fi K 6 [v, .I i, .I m] = some (.B true) := by
  obtain ⟨x, x1, x2, x3⟩ := s7 BI.nil hv hr
  refine e6 _ _ _ ?_
  by_cases hf : (fApp [] r).1 = 0
  · have hx := x2 hf
    rw [List.nil_append] at hx
    subst hx
    have hl : r.length ≤ 20000 := by
      by_cases h3 : 20000 < r.length
      · have h0 : endOf [] = 0 := by decide +kernel
        unfold fApp at hf
        rw [decide_eq_false (by decide), h0, decide_eq_false (by decide), decide_eq_true h3] at hf
        cases hf
      · omega
    have hlm : ((frame r).map bU).length = r.length + 10 := by rw [List.length_map, frame_len]
    have hw : IntKind.wrap .i64 (((r.length + 10 : Nat) : Int) - 1) = ((r.length + 9 : Nat) : Int) := by rw [w64 (by omega) (by omega)]; omega
    by_cases h1 : (2 : Int) ≤ i ∧ i ≤ ((r.length + 9 : Nat) : Int)
    · by_cases h2 : (1 : Int) ≤ m ∧ m ≤ 255
      · obtain ⟨k, rfl⟩ : ∃ k : Nat, i = (k : Int) := ⟨i.toNat, by omega⟩
        obtain ⟨n, rfl⟩ : ∃ k : Nat, m = (k : Int) := ⟨m.toNat, by omega⟩
        have q1 : Fi K 19 [.I (k : Int), .I 2, .I ((r.length + 9 : Nat) : Int)] = some (.B true) := by
          rw [s19, decide_eq_true h1.1, decide_eq_true h1.2]; rfl
        have q2 : Fi K 19 [.I (n : Int), .I 1, .I 255] = some (.B true) := by
          rw [s19, decide_eq_true h2.1, decide_eq_true h2.2]; rfl
        have hk : k < (frame r).length := by rw [frame_len]; omega
        obtain ⟨d, d1, d2⟩ := xor8 ((frame r).getD k 0) n (by omega) (by omega)
        have n1 : ((r.length + 10 : Nat)) ≤ 140737488355328 := by omega
        have n2 : (0 : Int) ≤ (k : Int) := by omega
        have n3 : (k : Int) < ((r.length + 10 : Nat) : Int) := by omega
        have h0 := changed_none r k d hl (by omega) (by omega) d2
        have hrec : recs ((frame r).set k d) = [] := by
          unfold recs
          rw [allR_succ, List.drop_zero, decide_eq_true h0]; rfl
        have hend : endOf ((frame r).set k d) = 0 := by unfold endOf; rw [hrec]; rfl
        obtain ⟨ys, y1, y2⟩ := s8 (BI.mke ((frame r).set k d)) (by rw [List.length_set, frame_len]; omega)
        have hy := y1.len
        rw [hrec] at hy
        have hy0 : ys = [] := List.eq_nil_of_length_eq_zero hy
        subst hy0
        rw [hend] at y2
        have hset : setUs ((frame r).map bU) (0 + k) (U.I (ibit .xor .u8 (U.nth ((frame r).map bU) (0 + k)).toI (IntKind.wrap .u8 (n : Int)))) = ((frame r).set k d).map bU := by
          rw [Nat.zero_add, nth_map hk]
          show setUs _ k (U.I (ibit .xor .u8 (((frame r).getD k 0).toNat : Int) (IntKind.wrap .u8 (n : Int)))) = _
          rw [d1, set_map]
        simp only [s10, Option.bind_some, toB_B, Bool.not_true, Bool.not_false, cond_true, cond_false, x1, get_ofL', nth_zero, nth_succ, f2, toI_I, hf, decide_true, len_ofL', toL_ofL', hlm, hw, q1, q2, Bool.or_self, n1, n2, n3, Bool.and_self, Int.toNat_natCast, hset, y2]
        rfl
      · have q1 : Fi K 19 [.I i, .I 2, .I ((r.length + 9 : Nat) : Int)] = some (.B true) := by
          rw [s19, decide_eq_true h1.1, decide_eq_true h1.2]; rfl
        have q2 : Fi K 19 [.I m, .I 1, .I 255] = some (.B false) := by
          rw [s19]
          have : (decide ((1 : Int) ≤ m) && decide (m ≤ 255)) = false := by
            rw [Bool.eq_false_iff]; intro h; apply h2; simpa using h
          rw [this]
        simp only [s10, Option.bind_some, toB_B, Bool.not_true, Bool.not_false, cond_true, cond_false, x1, get_ofL', nth_zero, nth_succ, f2, toI_I, hf, decide_true, len_ofL', hlm, hw, q1, q2, Bool.or_true, Bool.or_self]
    · have q1 : Fi K 19 [.I i, .I 2, .I ((r.length + 9 : Nat) : Int)] = some (.B false) := by
        rw [s19]
        have : (decide ((2 : Int) ≤ i) && decide (i ≤ ((r.length + 9 : Nat) : Int))) = false := by
          rw [Bool.eq_false_iff]; intro h; apply h1; simpa using h
        rw [this]
      simp only [s10, Option.bind_some, toB_B, Bool.not_true, Bool.not_false, cond_true, cond_false, x1, get_ofL', nth_zero, nth_succ, f2, toI_I, hf, decide_true, len_ofL', hlm, hw, q1, Bool.or_true, Bool.true_or]
  · have hx := x3 hf
    subst hx
    simp only [s10, Option.bind_some, toB_B, Bool.not_true, cond_false, x1, get_ofL', nth_zero, nth_succ, f2, toI_I, hf, decide_false, Bool.not_false, Bool.true_or, cond_true]
end Go.Proofs.Ytakanjmdnbjipaa
