/- Logs and their records, as lists. -/
import Derived.Test.YtakanjmdnbjipaaCPd
set_option linter.unusedVariables false
set_option linter.unusedSimpArgs false
namespace Go.Proofs.Ytakanjmdnbjipaa
open Go.Ab
set_option linter.unusedVariables false
set_option linter.unusedSimpArgs false
set_option maxRecDepth 100000

theorem b8_toNat (c : UInt8) : b8 c.toNat = c := by simp [b8]
theorem okN_frame {l : Bs} (h : okN l = true) : ∃ r, nxt l = some (r, r.length + 10) ∧ r.length ≤ 20000 ∧ r.length + 10 ≤ l.length ∧ l.take (r.length + 10) = frame r := by
  have h' := h
  unfold okN at h'
  simp only [Bool.and_eq_true, decide_eq_true_eq] at h'
  obtain ⟨h1, h2, h3, h4⟩ := h'
  match l, h1 with
  | a :: b :: t, _ =>
    have hh : hd (a :: b :: t) = a.toNat * 256 + b.toNat := rfl
    have ha := a.toNat_lt
    have hb := b.toNat_lt
    have hr : ((a :: b :: t).take (hd (a :: b :: t) + 2)).drop 2 = t.take (hd (a :: b :: t)) := by simp
    have hlen : (t.take (hd (a :: b :: t))).length = hd (a :: b :: t) := by simp at h3 ⊢; omega
    refine ⟨t.take (hd (a :: b :: t)), ?_, by omega, by omega, ?_⟩
    · unfold nxt; rw [h, hr, hlen]; rfl
    · rw [hlen]
      have hh2 : head2 (t.take (hd (a :: b :: t))) = (a :: b :: t).take (hd (a :: b :: t) + 2) := by
        unfold head2 num2
        rw [hlen, hh]
        have e1 : (a.toNat * 256 + b.toNat) / 256 = a.toNat := by omega
        have e2 : b8 ((a.toNat * 256 + b.toNat) / 1) = b := by
          rw [Nat.div_one]
          apply UInt8.toNat_inj.1
          first | (simp [b8]; done) | (simp [b8]; omega)
        rw [e1, b8_toNat, e2]
        simp
      unfold frame
      rw [hh2, h4, ← List.take_add]
theorem hd_frame (r y : Bs) (h : r.length ≤ 20000) : hd (frame r ++ y) = r.length := by
  unfold hd frame head2 num2
  simp [b8]
  omega
theorem frame_take (r y : Bs) : (frame r ++ y).take (r.length + 2) = head2 r := by
  unfold frame
  rw [List.append_assoc, List.take_left' (head2_len r)]
theorem frame_drop (r y : Bs) : (frame r ++ y).drop (r.length + 2) = num8 (sum (head2 r)) ++ y := by
  unfold frame
  rw [List.append_assoc, List.drop_left' (head2_len r)]
theorem frame_nxt (r y : Bs) (h : r.length ≤ 20000) : nxt (frame r ++ y) = some (r, r.length + 10) := by
  have hh := hd_frame r y h
  have hok : okN (frame r ++ y) = true := by
    unfold okN
    rw [hh, frame_take, frame_drop]
    have e : (num8 (sum (head2 r)) ++ y).take 8 = num8 (sum (head2 r)) := List.take_left' rfl
    rw [e]
    simp [frame_len]
    omega
  unfold nxt
  rw [hok, hh, frame_take]
  simp [head2, num2]
theorem nn_zero {l : Bs} (h : okN l = false) : nn l = 0 ∧ nr l = [] := by unfold nn nr nxt; rw [h]; exact ⟨rfl, rfl⟩
theorem nn_cases (l : Bs) : nn l = 0 ∨ ∃ r, nn l = r.length + 10 ∧ nr l = r ∧ r.length ≤ 20000 ∧ r.length + 10 ≤ l.length ∧ l.take (r.length + 10) = frame r := by
  cases h : okN l with
  | false => exact .inl (nn_zero h).1
  | true =>
    obtain ⟨r, h1, h2, h3, h4⟩ := okN_frame h
    exact .inr ⟨r, by unfold nn; rw [h1], by unfold nr; rw [h1], h2, h3, h4⟩
theorem nn_pre {l y : Bs} {r : Bs} (h : l = frame r ++ y) (hr : r.length ≤ 20000) : nn l = r.length + 10 ∧ nr l = r := by
  subst h
  unfold nn nr
  rw [frame_nxt r y hr]
  exact ⟨rfl, rfl⟩
/-- what follows does not matter -/
theorem nn_app {l y : Bs} (h : nn l ≠ 0) : nn (l ++ y) = nn l ∧ nr (l ++ y) = nr l := by
  rcases nn_cases l with h0 | ⟨r, h1, h2, h3, h4, h5⟩
  · exact (h h0).elim
  · have : l ++ y = frame r ++ (l.drop (r.length + 10) ++ y) := by
      rw [← List.append_assoc, ← h5, List.take_append_drop]
    obtain ⟨k1, k2⟩ := nn_pre this h3
    exact ⟨k1.trans h1.symm, k2.trans h2.symm⟩
theorem nn_take {l : Bs} {m : Nat} (h : nn l ≠ 0) (hm : nn l ≤ m) : nn (l.take m) = nn l ∧ nr (l.take m) = nr l := by
  rcases nn_cases l with h0 | ⟨r, h1, h2, h3, h4, h5⟩
  · exact (h h0).elim
  · have : l.take m = frame r ++ (l.take m).drop (r.length + 10) := by
      rw [← h5]
      conv => lhs; rw [← List.take_append_drop (r.length + 10) (l.take m)]
      rw [List.take_take, Nat.min_eq_left (by omega)]
    obtain ⟨k1, k2⟩ := nn_pre this h3
    exact ⟨k1.trans h1.symm, k2.trans h2.symm⟩
theorem nn_nil : nn [] = 0 := (nn_zero (by decide)).1
theorem allR_succ (f : Nat) (l : Bs) (k : Nat) : allR (f + 1) l k = bif decide (nn (l.drop k) = 0) then [] else (k + nn (l.drop k), nr (l.drop k)) :: allR f l (k + nn (l.drop k)) := rfl
theorem allR_fuel : ∀ (f f' : Nat) (l : Bs) (k : Nat), k ≤ l.length → l.length < k + f → l.length < k + f' → allR f l k = allR f' l k
  | 0, f', l, k, h, h1, h2 => by omega
  | f + 1, 0, l, k, h, h1, h2 => by omega
  | f + 1, f' + 1, l, k, h, h1, h2 => by
    unfold allR
    obtain ⟨n1, n2⟩ := nn_le (l.drop k)
    rw [List.length_drop] at n1
    cases hz : decide (nn (l.drop k) = 0) with
    | true => rfl
    | false =>
      have hz := of_decide_eq_false hz
      simp only [cond_false]
      rw [allR_fuel f f' l (k + nn (l.drop k)) (by omega) (by omega) (by omega)]
theorem lastP_app : ∀ (a b : List (Nat × Bs)) (d : Nat), lastP (a ++ b) d = lastP b (lastP a d)
  | [], b, d => rfl
  | p :: a, b, d => lastP_app a b p.1
theorem lastP_ge : ∀ (f : Nat) (l : Bs) (k : Nat), k ≤ lastP (allR f l k) k
  | 0, l, k => Nat.le_refl _
  | f + 1, l, k => by
    unfold allR
    cases hz : decide (nn (l.drop k) = 0) with
    | true => exact Nat.le_refl _
    | false =>
      have := lastP_ge f l (k + nn (l.drop k))
      show k ≤ lastP (allR f l (k + nn (l.drop k))) (k + nn (l.drop k))
      omega
/-- records that cover a log: what follows comes behind them -/
theorem allR_app : ∀ (f : Nat) (l y : Bs) (k : Nat), k ≤ l.length → lastP (allR f l k) k = l.length → ∀ (g : Nat), (l ++ y).length < k + g → l.length < k + f → allR g (l ++ y) k = allR f l k ++ allR (y.length + 1) (l ++ y) l.length
  | 0, l, y, k, h, hc, g, hg, hf => by omega
  | f + 1, l, y, k, h, hc, 0, hg, hf => by simp at hg; omega
  | f + 1, l, y, k, h, hc, g + 1, hg, hf => by
    rw [List.length_append] at hg
    obtain ⟨n1, n2⟩ := nn_le (l.drop k)
    rw [List.length_drop] at n1
    by_cases hz : nn (l.drop k) = 0
    · have e : allR (f + 1) l k = [] := by rw [allR_succ, decide_eq_true hz]; rfl
      rw [e] at hc ⊢
      have hk : k = l.length := hc
      subst hk
      rw [List.nil_append]
      exact allR_fuel _ _ _ _ (by rw [List.length_append]; omega) (by rw [List.length_append]; omega) (by rw [List.length_append]; omega)
    · have e : allR (f + 1) l k = (k + nn (l.drop k), nr (l.drop k)) :: allR f l (k + nn (l.drop k)) := by rw [allR_succ, decide_eq_false hz]; rfl
      have hd' : (l ++ y).drop k = l.drop k ++ y := List.drop_append_of_le_length h
      obtain ⟨m1, m2⟩ := nn_app (y := y) hz
      have e2 : allR (g + 1) (l ++ y) k = (k + nn (l.drop k), nr (l.drop k)) :: allR g (l ++ y) (k + nn (l.drop k)) := by
        rw [allR_succ, hd', m1, m2, decide_eq_false hz]; rfl
      rw [e] at hc ⊢
      rw [e2, allR_app f l y (k + nn (l.drop k)) (by omega) hc g (by rw [List.length_append]; omega) (by omega)]
      rfl
theorem allR_take : ∀ (f : Nat) (l : Bs) (k e : Nat), k ≤ l.length → l.length < k + f → lastP (allR f l k) k = e → ∀ g, e < k + g → allR g (l.take e) k = allR f l k
  | 0, l, k, e, h, hf, he, g, hg => by omega
  | f + 1, l, k, e, h, hf, he, g, hg => by
    obtain ⟨n1, n2⟩ := nn_le (l.drop k)
    rw [List.length_drop] at n1
    by_cases hz : nn (l.drop k) = 0
    · have e1 : allR (f + 1) l k = [] := by rw [allR_succ, decide_eq_true hz]; rfl
      rw [e1] at he ⊢
      have hk : k = e := he
      subst hk
      cases g with
      | zero => omega
      | succ g =>
        rw [allR_succ, List.drop_eq_nil_of_le (by rw [List.length_take]; omega), nn_nil]; rfl
    · have e1 : allR (f + 1) l k = (k + nn (l.drop k), nr (l.drop k)) :: allR f l (k + nn (l.drop k)) := by rw [allR_succ, decide_eq_false hz]; rfl
      rw [e1] at he ⊢
      have he : lastP (allR f l (k + nn (l.drop k))) (k + nn (l.drop k)) = e := he
      have hge := lastP_ge f l (k + nn (l.drop k))
      rw [he] at hge
      obtain ⟨m1, m2⟩ := nn_take (m := e - k) hz (by omega)
      cases g with
      | zero => omega
      | succ g =>
        have hd' : (l.take e).drop k = (l.drop k).take (e - k) := List.drop_take ..
        rw [allR_succ, hd', m1, m2, decide_eq_false hz]
        show _ :: _ = _
        rw [allR_take f l (k + nn (l.drop k)) e (by omega) (by omega) he g (by omega)]
theorem recs_repair (l : Bs) : recs (l.take (endOf l)) = recs l ∧ endOf (l.take (endOf l)) = (l.take (endOf l)).length := by
  have he := endOf_le l
  have hl : (l.take (endOf l)).length = endOf l := by simp; omega
  have h1 : recs (l.take (endOf l)) = recs l := by
    unfold recs
    exact allR_take _ l 0 (endOf l) (by omega) (by omega) rfl _ (by rw [hl]; omega)
  refine ⟨h1, ?_⟩
  rw [hl]
  show lastP (recs (l.take (endOf l))) 0 = _
  rw [h1]; rfl
theorem recs_app (l y : Bs) (h : endOf l = l.length) : recs (l ++ y) = recs l ++ allR (y.length + 1) (l ++ y) l.length :=
  allR_app _ l y 0 (by omega) h _ (by omega) (by omega)
theorem cut_none (r : Bs) (k : Nat) (hr : r.length ≤ 20000) (hk : k < r.length + 10) : nn ((frame r).take k) = 0 := by
  rcases nn_cases ((frame r).take k) with h | ⟨s, h1, h2, h3, h4, h5⟩
  · exact h
  · exfalso
    have hlen : ((frame r).take k).length = k := by rw [List.length_take, frame_len]; omega
    have h6 : ((frame r).take k).take (s.length + 10) = frame s := h5
    rw [List.take_take, Nat.min_eq_left (by omega)] at h6
    -- the first two bytes
    have e1 := hd_frame r [] hr
    have e2 := hd_frame s [] h3
    rw [List.append_nil] at e1 e2
    have e3 : hd (frame s) = hd (frame r) := by
      rw [← h6]
      unfold hd
      have g : ∀ i, i < 2 → ((frame r).take (s.length + 10)).getD i 0 = (frame r).getD i 0 := by
        intro i hi
        rw [List.getD_eq_getElem?_getD, List.getD_eq_getElem?_getD, List.getElem?_take, if_pos (by omega)]
      rw [g 0 (by omega), g 1 (by omega)]
    omega
/-- a log with a record more, cut -/
theorem recs_cut (l r : Bs) (k : Nat) (h : endOf l = l.length) (hr : r.length ≤ 20000) (hk : k ≤ r.length + 10) :
    recs (l ++ (frame r).take k) = recs l ++ (bif decide (k = r.length + 10) then [(l.length + (r.length + 10), r)] else []) := by
  rw [recs_app l _ h]
  congr 1
  have hlen : ((frame r).take k).length = k := by rw [List.length_take, frame_len]; omega
  rw [allR_succ, List.drop_left]
  by_cases he : k = r.length + 10
  · rw [decide_eq_true he]
    have ht : (frame r).take k = frame r := List.take_of_length_le (by rw [frame_len]; omega)
    rw [ht]
    obtain ⟨n1, n2⟩ := nn_pre (l := frame r) (y := []) (by simp) hr
    rw [n1, n2]
    have hz : ¬ (r.length + 10 = 0) := by omega
    rw [decide_eq_false hz]
    simp only [cond_false, cond_true]
    congr 1
    rw [frame_len]
    rw [allR_succ, List.drop_eq_nil_of_le (by rw [List.length_append, frame_len]; omega), nn_nil]
    rfl
  · rw [decide_eq_false he, cut_none r k hr (by omega)]
    rfl
/-- a changed byte -/
theorem changed_none (r : Bs) (i : Nat) (c : UInt8) (hr : r.length ≤ 20000) (h2 : 2 ≤ i) (hi : i < r.length + 10) (hc : c ≠ (frame r).getD i 0) : nn ((frame r).set i c) = 0 := by
  rcases nn_cases ((frame r).set i c) with h | ⟨s, h1, hs2, h3, h4, h5⟩
  · exact h
  · exfalso
    have hfl := frame_len r
    have hlen : ((frame r).set i c).length = r.length + 10 := by rw [List.length_set, hfl]
    have e1 := hd_frame r [] hr
    have e2 := hd_frame s [] h3
    rw [List.append_nil] at e1 e2
    have e3 : hd (frame s) = hd (frame r) := by
      rw [← h5]
      unfold hd
      have g : ∀ j, j < 2 → (((frame r).set i c).take (s.length + 10)).getD j 0 = (frame r).getD j 0 := by
        intro j hj
        rw [List.getD_eq_getElem?_getD, List.getD_eq_getElem?_getD, List.getElem?_take, if_pos (by omega), List.getElem?_set_ne (by omega)]
      rw [g 0 (by omega), g 1 (by omega)]
    have hsl : s.length = r.length := by omega
    rw [List.take_of_length_le (by omega)] at h5
    -- both parts
    have hA : (head2 s) = ((frame r).set i c).take (r.length + 2) := by
      rw [h5, ← hsl]
      have := frame_take s []
      rw [List.append_nil] at this
      exact this.symm
    have hB : num8 (sum (head2 s)) = ((frame r).set i c).drop (r.length + 2) := by
      rw [h5, ← hsl]
      have := frame_drop s []
      rw [List.append_nil, List.append_nil] at this
      exact this.symm
    have hA0 := frame_take r []
    have hB0 := frame_drop r []
    rw [List.append_nil] at hA0 hB0
    rw [List.append_nil] at hB0
    by_cases hlt : i < r.length + 2
    · -- in front of the sum
      rw [List.drop_set_of_lt (by omega), hB0] at hB
      have hsum := num8_inj (sum_lt _) (sum_lt _) hB
      rw [List.take_set, hA0] at hA
      have hl2 : i < (head2 r).length := by rw [head2_len]; omega
      have hge : (head2 r).getD i 0 = (frame r).getD i 0 := by
        rw [← hA0, List.getD_eq_getElem?_getD, List.getD_eq_getElem?_getD, List.getElem?_take, if_pos (by omega)]
      have d1 : head2 r = (head2 r).take i ++ (head2 r).getD i 0 :: (head2 r).drop (i + 1) := by
        conv => lhs; rw [← List.take_append_drop i (head2 r)]
        rw [drop_getD 0 hl2]
      have d2 : (head2 r).set i c = (head2 r).take i ++ c :: (head2 r).drop (i + 1) := by
        rw [List.set_eq_take_append_cons_drop, if_pos hl2]
      refine sum_changed ((head2 r).take i) ((head2 r).drop (i + 1)) c ((head2 r).getD i 0) (by rw [hge]; exact hc) ?_
      rw [← d2, ← d1, ← hA]
      exact hsum
    · -- in the sum
      have hA1 : ((frame r).set i c).take (r.length + 2) = head2 r := by
        rw [List.take_set_of_le (by omega), hA0]
      rw [hA1] at hA
      rw [hA] at hB
      have e4 : (frame r).set i c = frame r := by
        conv => lhs; rw [← List.take_append_drop (r.length + 2) ((frame r).set i c)]
        rw [hA1, ← hB]
        rfl
      apply hc
      have := congrArg (fun l => l.getD i 0) e4
      simp only [List.getD_eq_getElem?_getD] at this
      rw [List.getElem?_set_self (by omega)] at this
      simpa [List.getD_eq_getElem?_getD] using this
end Go.Proofs.Ytakanjmdnbjipaa
