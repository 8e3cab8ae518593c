/- The reference's records; the example; four laws. -/
import Derived.Test.YtakanjmdnbjipaaCPe
set_option linter.unusedVariables false
set_option linter.unusedSimpArgs false
namespace Go.Proofs.Ytakanjmdnbjipaa
open Go.Ab
set_option linter.unusedVariables false
set_option linter.unusedSimpArgs false
set_option maxRecDepth 100000

theorem nn_not {l : Bs} (h : okN l = false) : nn l = 0 := (nn_zero h).1
theorem l14 {u : U} {l : Bs} (hu : BI u l) (hl : l.length ≤ 400000) : ∀ (f k : Nat) (xs : List U) (rs : List Bs), k ≤ l.length → l.length < k + f → RL xs rs → xs.length + (allR f l k).length ≤ 1000000 →
    ∃ ys, RL ys (rs ++ (allR f l k).map (·.2)) ∧ Lp K 14 0 ⟨[u, .B true, .I (k : Nat)], [xs]⟩ = some (.brk ⟨[.B true, .I (lastP (allR f l k) k : Nat)], [ys]⟩)
  | 0, k, xs, rs, h1, h2, hr, hn => by omega
  | f + 1, k, xs, rs, h1, h2, hr, hn => by
    have hkI : IntKind.wrap .i64 ((k : Int) + 10) = ((k + 10 : Nat) : Int) := by rw [w64 (by omega) (by omega)]; omega
    have hlenD : (l.drop k).length = l.length - k := List.length_drop ..
    have stop : nn (l.drop k) = 0 → Lp K 14 0 ⟨[u, .B true, .I (k : Nat)], [xs]⟩ = some (.brk ⟨[.B true, .I (k : Nat)], [xs]⟩) → ∃ ys, RL ys (rs ++ (allR (f + 1) l k).map (·.2)) ∧ Lp K 14 0 ⟨[u, .B true, .I (k : Nat)], [xs]⟩ = some (.brk ⟨[.B true, .I (lastP (allR (f + 1) l k) k : Nat)], [ys]⟩) := by
      intro h0 hlp
      rw [allR_succ, decide_eq_true h0]
      exact ⟨xs, by simpa using hr, hlp⟩
    by_cases hk : k + 10 ≤ l.length
    · have a1 : ((k + 10 : Nat) : Int) ≤ (l.length : Int) := by omega
      have a2 : (0 : Int) ≤ (k : Int) := by omega
      have a3 : (k : Int) < (l.length : Int) := by omega
      have a4 : (0 : Int) ≤ ((k + 1 : Nat) : Int) := by omega
      have a5 : ((k + 1 : Nat) : Int) < (l.length : Int) := by omega
      have hk1 : IntKind.wrap .i64 ((k : Int) + 1) = ((k + 1 : Nat) : Int) := w64s (by omega)
      have hk2 : IntKind.wrap .i64 ((k : Int) + 2) = ((k + 2 : Nat) : Int) := by rw [w64 (by omega) (by omega)]; omega
      have g0 := get_b hu.is (i := k) (by omega)
      have g1 := get_b hu.is (i := k + 1) (by omega)
      have l0 := (l.getD k 0).toNat_lt
      have l1 := (l.getD (k + 1) 0).toNat_lt
      have hhd : hd (l.drop k) = (l.getD k 0).toNat * 256 + (l.getD (k + 1) 0).toNat := by
        unfold hd
        simp [List.getD_eq_getElem?_getD, List.getElem?_drop]
      have hN : IntKind.wrap .i64 ((IntKind.wrap .i64 (256 * (IntKind.wrap .i64 (u.get k).toI))) + (IntKind.wrap .i64 (u.get (k + 1)).toI)) = ((hd (l.drop k) : Nat) : Int) := by
        rw [g0, g1, w64n (by omega), w64n (by omega), w64 (n := 256 * ((l.getD k 0).toNat : Int)) (by omega) (by omega), w64 (by omega) (by omega), hhd]
        omega
      have hh := hd_lt (l.drop k)
      have hE : IntKind.wrap .i64 (((k + 10 : Nat) : Int) + ((hd (l.drop k) : Nat) : Int)) = ((k + 10 + hd (l.drop k) : Nat) : Int) := by rw [w64 (by omega) (by omega)]; omega
      have hE2 : IntKind.wrap .i64 (((k + 2 : Nat) : Int) + ((hd (l.drop k) : Nat) : Int)) = ((k + 2 + hd (l.drop k) : Nat) : Int) := by rw [w64 (by omega) (by omega)]; omega
      by_cases hc : hd (l.drop k) ≤ 20000 ∧ k + 10 + hd (l.drop k) ≤ l.length
      · obtain ⟨hc1, hc2⟩ := hc
        have b1 : ¬ ((20000 : Int) < ((hd (l.drop k) : Nat) : Int)) := by omega
        have b2 : ¬ ((l.length : Int) < ((k + 10 + hd (l.drop k) : Nat) : Int)) := by omega
        have b3 : (0 : Int) ≤ ((k + 2 : Nat) : Int) := by omega
        have b4 : ((k + 2 : Nat) : Int) ≤ ((k + 2 + hd (l.drop k) : Nat) : Int) := by omega
        have b5 : ((k + 2 + hd (l.drop k) : Nat) : Int) ≤ (l.length : Int) := by omega
        have b6 : (k : Int) ≤ ((k + 10 + hd (l.drop k) : Nat) : Int) := by omega
        have b7 : ((k + 10 + hd (l.drop k) : Nat) : Int) ≤ (l.length : Int) := by omega
        have hsub := hu.sub (a := k + 2) (b := k + 2 + hd (l.drop k)) (by omega)
        have hsub2 := hu.sub (a := k) (b := k + 10 + hd (l.drop k)) (by omega)
        have eR : (l.take (k + 2 + hd (l.drop k))).drop (k + 2) = ((l.drop k).take (hd (l.drop k) + 2)).drop 2 := by
          rw [List.drop_take, List.drop_take, List.drop_drop]
          congr 1
          · omega
        have eF : (l.take (k + 10 + hd (l.drop k))).drop k = (l.drop k).take (hd (l.drop k) + 10) := by
          rw [List.drop_take]; congr 1; omega
        rw [eR] at hsub
        rw [eF] at hsub2
        have hrl : (((l.drop k).take (hd (l.drop k) + 2)).drop 2).length = hd (l.drop k) := by simp; omega
        have q1 := s18 hsub.is (by rw [hrl]; omega)
        have q2 := s16 (Is.mk' bU false (frame (((l.drop k).take (hd (l.drop k) + 2)).drop 2))) hsub2.is
        by_cases hs : frame (((l.drop k).take (hd (l.drop k) + 2)).drop 2) = (l.drop k).take (hd (l.drop k) + 10)
        · have hdec : l.drop k = frame (((l.drop k).take (hd (l.drop k) + 2)).drop 2) ++ (l.drop k).drop (hd (l.drop k) + 10) := by
            rw [hs, List.take_append_drop]
          obtain ⟨n1, n2⟩ := nn_pre hdec (by rw [hrl]; omega)
          rw [hrl] at n1
          have hz : ¬ (nn (l.drop k) = 0) := by omega
          have hall : allR (f + 1) l k = (k + nn (l.drop k), nr (l.drop k)) :: allR f l (k + nn (l.drop k)) := by rw [allR_succ, decide_eq_false hz]; rfl
          rw [hall] at hn ⊢
          obtain ⟨ys, y1, y2⟩ := l14 hu hl f (k + nn (l.drop k)) (xs ++ [u.sub (k + 2) (k + 2 + hd (l.drop k))]) (rs ++ [nr (l.drop k)]) (by omega) (by omega) (hr.app ⟨by rw [n2]; exact hsub, trivial⟩) (by simp at hn ⊢; omega)
          refine ⟨ys, by simpa using y1, l14_0 _ _ _ _ ?_⟩
          have h9 : xs.length + 1 ≤ 5864062014805 := by simp at hn; omega
          have e9 : k + 10 + hd (l.drop k) = k + nn (l.drop k) := by omega
          rw [decide_eq_true hs] at q2
          simp only [hkI, hu.is.len, a1, a2, a3, hk1, a4, a5, decide_true, Bool.and_self, cond_true, Int.toNat_natCast, hN, hE, b1, b2, decide_false, Bool.or_self, cond_false, hk2, hE2, b3, b4, b5, b6, b7, q1, Option.bind_some, q2, toB_B, Bool.not_true, h9]
          rw [e9]
          exact y2
        · have h0 : nn (l.drop k) = 0 := by
            cases hok : okN (l.drop k) with
            | false => exact nn_not hok
            | true =>
              exfalso
              obtain ⟨r, r1, r2, r3, r4⟩ := okN_frame hok
              unfold nxt at r1
              rw [hok] at r1
              simp only [cond_true, Option.some.injEq, Prod.mk.injEq] at r1
              obtain ⟨r5, r6⟩ := r1
              apply hs
              rw [r5, ← r4, r6]
          refine stop h0 (l14_0 _ _ _ _ ?_)
          rw [decide_eq_false hs] at q2
          simp only [hkI, hu.is.len, a1, a2, a3, hk1, a4, a5, decide_true, Bool.and_self, cond_true, Int.toNat_natCast, hN, hE, b1, b2, decide_false, Bool.or_self, cond_false, hk2, hE2, b3, b4, b5, b6, b7, q1, Option.bind_some, q2, toB_B, Bool.not_false]
      · have h0 : nn (l.drop k) = 0 := by
          apply nn_not
          unfold okN
          by_cases h3 : hd (l.drop k) ≤ 20000
          · have h4 : ¬ (hd (l.drop k) + 10 ≤ (l.drop k).length) := fun h => hc ⟨h3, by omega⟩
            rw [decide_eq_false h4]; simp
          · rw [decide_eq_false h3]; simp
        have hb : (decide ((20000 : Int) < ((hd (l.drop k) : Nat) : Int)) || decide ((l.length : Int) < ((k + 10 + hd (l.drop k) : Nat) : Int))) = true := by
          simp only [Bool.or_eq_true, decide_eq_true_eq]; omega
        refine stop h0 (l14_0 _ _ _ _ ?_)
        simp only [hkI, hu.is.len, a1, a2, a3, hk1, a4, a5, decide_true, Bool.and_self, cond_true, Int.toNat_natCast, hN, hE, hb]
    · have h0 : nn (l.drop k) = 0 := by
        apply nn_not
        unfold okN
        have h4 : ¬ (hd (l.drop k) + 10 ≤ (l.drop k).length) := by omega
        rw [decide_eq_false h4]; simp
      refine stop h0 (l14_0 _ _ _ _ ?_)
      have a1 : ¬ (((k + 10 : Nat) : Int) ≤ (l.length : Int)) := by omega
      simp only [hkI, hu.is.len, a1, decide_false, cond_false]
theorem s14 {u : U} {l : Bs} (hu : BI u l) (hl : l.length ≤ 400000) : ∃ ys, RL ys ((recs l).map (·.2)) ∧ Fi K 14 [u] = some (.ofL false [.ofL ys.isEmpty ys, .I (endOf l : Nat)]) := by
  obtain ⟨a1, _⟩ := allR_len (l.length + 1) l 0 (by omega)
  obtain ⟨ys, y1, y2⟩ := l14 hu hl (l.length + 1) 0 [] [] (by omega) (by omega) trivial (by simp; omega)
  rw [List.nil_append] at y1
  refine ⟨ys, y1, e14 u ?_⟩
  rw [show (U.I 0) = U.I ((0 : Nat) : Int) from rfl, y2]
  rfl
/-- a slice of records -/
structure RU (u : U) (rs : List Bs) : Prop where
  len : u.len = rs.length
  get : ∀ i, i < rs.length → BI (u.get i) (rs.getD i [])
theorem RL.ru {xs : List U} {rs : List Bs} (h : RL xs rs) (b : Bool) : RU (.ofL b xs) rs := ⟨h.len, fun i hi => h.get i hi⟩
theorem RU.take {u : U} {rs : List Bs} (h : RU u rs) {n : Nat} (hn : n ≤ rs.length) : RU (u.sub 0 n) (rs.take n) := ⟨by simp [U.sub, U.len]; omega, fun i hi => by
  rw [List.length_take] at hi
  have := h.get i (by omega)
  have e : (rs.take n).getD i [] = rs.getD i [] := by rw [List.getD_eq_getElem?_getD, List.getD_eq_getElem?_getD, List.getElem?_take, if_pos (by omega)]
  rw [e]
  show BI (u.get (0 + i)) _
  rw [Nat.zero_add]; exact this⟩
theorem l15 {u v : U} {rs ss : List Bs} (hx : RU u rs) (hy : RU v ss) (hl : rs.length = ss.length) (hn : rs.length < 1000000) : ∀ qs i, rs.drop i = qs → Lp K 15 0 ⟨[u, v, .I (i : Nat)], []⟩ = some (bif decide (qs = ss.drop i) then .brk ⟨[], []⟩ else .ret (.B false))
  | [], i, e => by
    refine l15_0 _ _ _ ?_
    have := drop_nil_ge e
    have hxl := hx.len
    have h1 : ¬ ((i : Int) < (u.len : Int)) := by omega
    have h2 : ss.drop i = [] := List.drop_eq_nil_of_le (by omega)
    simp [h1, h2]
  | q :: qs, i, e => by
    have k := Cur.of e
    have hlt := k.lt
    have hxl := hx.len
    have hyl := hy.len
    refine l15_0 _ _ _ ?_
    have h1 : ((i : Int) < (u.len : Int)) := by omega
    have h1' : ((i : Int) < (v.len : Int)) := by omega
    have h2 : (0 : Int) ≤ (i : Int) := by omega
    have hg := hx.get i hlt
    have hg' := hy.get i (by omega)
    rw [k.getD] at hg
    have hd' : ss.drop i = ss.getD i [] :: ss.drop (i + 1) := drop_getD [] (by omega)
    have ih := l15 hx hy hl hn qs (i + 1) k.next
    rw [w64s (by omega), hd']
    simp only [h1, h1', h2, decide_true, cond_true, Bool.and_self, Int.toNat_natCast, s16 hg.is hg'.is, Option.bind_some, toB_B, ih]
    by_cases hc : q = ss.getD i []
    · rw [← hc]; simp
    · have h3 : ¬ (q :: qs = ss.getD i [] :: ss.drop (i + 1)) := fun h => hc (by injection h)
      rw [decide_eq_false hc, decide_eq_false h3]
      rfl
theorem s15 {u v : U} {rs ss : List Bs} (hx : RU u rs) (hy : RU v ss) (hn : rs.length < 1000000) : Fi K 15 [u, v] = some (.B (decide (rs = ss))) := by
  refine e15 _ _ ?_
  have hxl := hx.len
  have hyl := hy.len
  by_cases he : rs.length = ss.length
  · have h1 : ((u.len : Int) = (v.len : Int)) := by omega
    have := l15 hx hy he hn rs 0 rfl
    simp only [h1, decide_true, Bool.not_true, cond_false]
    rw [show (U.I 0) = U.I ((0 : Nat) : Int) from rfl, this, List.drop_zero]
    cases decide (rs = ss) <;> rfl
  · have h1 : ¬ ((u.len : Int) = (v.len : Int)) := by omega
    have h2 : ¬ (rs = ss) := fun h => he (by rw [h])
    simp only [h1, decide_false, Bool.not_false, cond_true, h2]
theorem s13 {u : U} {l : Bs} (hu : BI u l) : Fi K 13 [u] = some (bif decide ((400000 : Int) < (l.length : Int)) then f2 1 (-1) else f2 0 0) := by
  refine e13 u ?_
  rw [hu.is.len, s17]
  cases decide ((400000 : Int) < (l.length : Int)) <;> rfl
/-! the example -/
def abc : Bs := [97, 98, 99]
theorem s10 : Fi K 10 [] = some (.B true) := by
  have hE : endOf [] = 0 := by decide +kernel
  have hf : fApp [] abc = (0, 0) := by decide +kernel
  obtain ⟨x, x1, x2, _⟩ := s7 BI.nil (BI.mk' abc) (by decide)
  rw [hf] at x1 x2
  have hx := x2 rfl
  rw [List.nil_append] at hx
  subst hx
  have hr : recs (frame abc ++ [1, 2]) = [(13, abc)] := by decide +kernel
  have he : endOf (frame abc ++ [1, 2]) = 13 := by decide +kernel
  have h13 : (frame abc).length = 13 := by rw [frame_len]; rfl
  have hl : (frame abc ++ [1, 2]).length = 15 := by rw [List.length_append, h13]; rfl
  obtain ⟨ys, y1, y2⟩ := s8 (BI.mke (frame abc ++ [1, 2])) (by omega)
  obtain ⟨v, v1, v2⟩ := s9 (BI.mke (frame abc ++ [1, 2])) (by omega)
  rw [he] at y2 v1
  rw [hr] at y1
  have ht : (frame abc ++ [1, 2]).take 13 = frame abc := List.take_left' h13
  rw [ht] at v1
  have hs : sum [] = 14695981038468906945 := by decide +kernel
  have hsum := s11 (Is.nil bU) (by decide)
  rw [hs] at hsum
  have hap : (frame abc).map bU ++ [(U.I 1), (U.I 2)] = (frame abc ++ [1, 2]).map bU := by rw [List.map_append]; rfl
  match ys, y1 with
  | [y], y1 =>
    have hb := bytes_b y1.1.is
    have hq := s16 v1.is (Is.mk' bU false (frame abc))
    refine e10 ?_
    have e0 : Fi K 7 [U.nil, (U.ofL false [(U.I 97), (U.I 98), (U.I 99)])] = _ := x1
    rw [e0]
    have n1 : ((frame abc).map bU).length ≤ 140737488355328 := by rw [List.length_map, h13]; decide
    have n2 : ((frame abc).map bU).length + 2 ≤ 140737488355328 := by rw [List.length_map, h13]; decide
    have n3 : ((((frame abc).map bU).length : Nat) : Int) = 13 := by rw [List.length_map, h13]; rfl
    simp only [Option.bind_some, get_ofL', nth_zero, nth_succ, toL_ofL', n1, n2, decide_true, cond_true, hap, y2, v2, hsum, toI_I, f2, len_ofL', n3, List.length_cons, List.length_nil, Bool.and_self, hb, hq, toB_B, Bool.or_true, Bool.true_or]
    rfl
end Go.Proofs.Ytakanjmdnbjipaa
