/- Names and paths: what the program's functions answer, in plain words. -/
import Derived.Test.YtnahhhaicalmcaaDoorCPa
set_option linter.unusedVariables false
set_option linter.unusedSimpArgs false
section
namespace Go.Proofs.YtnahhhaicalmcaaDoor
open Go.Ab
set_option linter.unusedVariables false
set_option linter.unusedSimpArgs false
set_option maxRecDepth 100000

abbrev Bs := List UInt8
/-- a slice of byte strings -/
structure Sl (u : U) (l : List Bs) : Prop where
  is : Is U.S u l
  nil : u.isNil = true → l = []
theorem Sl.mk' {b : Bool} {l : List Bs} (h : b = true → l = []) : Sl (U.ofL b (l.map U.S)) l := ⟨Is.mk' _ _ _, h⟩
def loV : LO → U
  | .ret v => v
  | .brk _ => .I (-1)

/-- a byte of a name -/
def nb (c : UInt8) : Bool := (((((decide ((97 : Int) ≤ ((c.toNat : Nat) : Int))) && (decide (((c.toNat : Nat) : Int) ≤ 122))) || ((decide ((65 : Int) ≤ ((c.toNat : Nat) : Int))) && (decide (((c.toNat : Nat) : Int) ≤ 90)))) || ((decide ((48 : Int) ≤ ((c.toNat : Nat) : Int))) && (decide (((c.toNat : Nat) : Int) ≤ 57)))) || (decide (((c.toNat : Nat) : Int) = 45))) || (decide (((c.toNat : Nat) : Int) = 95)) || (decide (((c.toNat : Nat) : Int) = 46))
theorem l32 {s : Bs} (hl : s.length < 9223372036854775807) : ∀ r i, s.drop i = r → Lp K 32 0 ⟨[.S s, .I (s.length : Nat), .I (i : Nat)], []⟩ = some (bif r.all nb then .brk ⟨[.S s], []⟩ else .ret (.B false))
  | [], i, e => by
    have := drop_nil_ge e
    have h1 : ¬ ((i : Int) < (s.length : Int)) := by omega
    exact l32_0 _ _ _ (by simp only [h1, decide_false, cond_false, List.all_nil, cond_true])
  | c :: r, i, e => by
    have k := Cur.of e
    have hlt := k.lt
    have h1 : ((i : Int) < (s.length : Int)) := by omega
    have h2 : (0 : Int) ≤ (i : Int) := by omega
    have ih := l32 hl r (i + 1) k.next
    refine l32_0 _ _ _ ?_
    simp only [h1, h2, decide_true, cond_true, Bool.and_self, Int.toNat_natCast, k.getD]
    rw [w64s (by omega), ih]
    change (bif !nb c then _ else _) = _
    rw [List.all_cons]
    cases nb c <;> rfl
/-- is it a name -/
def isNm (s : Bs) : Bool := s.all nb && (decide (1 ≤ s.length) && decide (s.length ≤ 60))
theorem s32 {s : Bs} (hl : s.length < 9223372036854775807) : Fi K 32 [.S s] = some (.B (isNm s)) := by
  refine e32 _ ?_
  rw [show (U.I 0) = U.I ((0 : Nat) : Int) from rfl, l32 hl s 0 rfl]
  have c1 : ((1 : Int) ≤ ((s.length : Nat) : Int)) ↔ 1 ≤ s.length := by omega
  have c2 : (((s.length : Nat) : Int) ≤ (60 : Int)) ↔ s.length ≤ 60 := by omega
  unfold isNm
  cases h : s.all nb
  · rfl
  · refine congrArg (fun b => some (U.B b)) ?_
    show (decide _ && decide _) = (true && (decide _ && decide _))
    rw [Bool.true_and]
    exact congr (congrArg _ (decide_eq_decide.2 c1)) (decide_eq_decide.2 c2)
theorem s31 {s : Bs} (hl : s.length < 9223372036854775807) : Fi K 31 [.S s] = some (.B (!isNm s)) := by
  refine e31 _ ?_
  simp only [s32 hl, Option.bind_some, toB_B]

/-- where the first of its kind is -/
def fidx (p : Bs → Bool) : List Bs → Int
  | [] => -1
  | s :: l => bif p s then 0 else bif l.any p then fidx p l + 1 else -1
theorem fidx_cons (p : Bs → Bool) (s : Bs) (l : List Bs) : fidx p (s :: l) = bif p s then 0 else bif l.any p then fidx p l + 1 else -1 := rfl
theorem fidx_nonneg (p : Bs → Bool) : ∀ l, decide ((0 : Int) ≤ fidx p l) = l.any p
  | [] => rfl
  | s :: l => by
    have ih := fidx_nonneg p l
    rw [fidx_cons, List.any_cons]
    cases h : p s
    · cases h2 : l.any p
      · rfl
      · rw [h2] at ih
        have : (0 : Int) ≤ fidx p l := of_decide_eq_true ih
        simp only [cond_true, cond_false, Bool.false_or, decide_eq_true_eq]
        omega
    · rfl
theorem l37 {u c : U} {l : List Bs} {p : Bs → Bool} (hu : Is U.S u l) (hl : l.length < 9223372036854775807) (hp : ∀ s ∈ l, Fi K c.fid ([.S s] ++ c.toL) = some (.B (p s))) : ∀ r i, l.drop i = r →
    Lp K 37 0 ⟨[u, c, .I (l.length : Nat), .I (i : Nat)], []⟩ = some (bif r.any p then .ret (.I ((i : Nat) + fidx p r)) else .brk ⟨[], []⟩)
  | [], i, e => by
    have := drop_nil_ge e
    have h1 : ¬ ((i : Int) < (l.length : Int)) := by omega
    exact l37_0 _ _ _ _ (by simp only [h1, decide_false, cond_false, List.any_nil])
  | s :: r, i, e => by
    have k := Cur.of e
    have hlt := k.lt
    have h1 : ((i : Int) < (l.length : Int)) := by omega
    have h2 : (0 : Int) ≤ (i : Int) := by omega
    have ih := l37 hu hl hp r (i + 1) k.next
    have hx := hu.get i s k.elem
    refine l37_0 _ _ _ _ ?_
    simp only [h1, h2, decide_true, cond_true, Bool.and_self, Int.toNat_natCast, hu.len, hx, toS_S, hp s (List.mem_of_getElem? k.elem), Option.bind_some, toB_B]
    rw [w64s (by omega), ih]
    rw [fidx_cons, List.any_cons]
    cases h : p s
    · cases h3 : r.any p
      · rfl
      · simp only [Bool.or_true, cond_true, cond_false]
        congr 3
        omega
    · simp
theorem s37 {u c : U} {l : List Bs} {p : Bs → Bool} (hu : Is U.S u l) (hl : l.length < 9223372036854775807) (hp : ∀ s ∈ l, Fi K c.fid ([.S s] ++ c.toL) = some (.B (p s))) : Fi K 37 [u, c] = some (.I (fidx p l)) := by
  refine e37 _ _ ?_
  rw [hu.len, show (U.I 0) = U.I ((0 : Nat) : Int) from rfl, l37 hu hl hp l 0 rfl]
  have hn := fidx_nonneg p l
  cases h : l.any p
  · simp only [cond_false, loK]
    congr 2
    match l, h with
    | [], _ => rfl
    | s :: l, h =>
      rw [List.any_cons, Bool.or_eq_false_iff] at h
      rw [fidx_cons, h.1, h.2]; rfl
  · simp only [cond_true, loK]
    show some (U.I (((0 : Nat) : Int) + _)) = _
    rw [show (((0 : Nat) : Int) + fidx p l) = fidx p l by omega]
theorem s21 {u c : U} {l : List Bs} {p : Bs → Bool} (hu : Is U.S u l) (hl : l.length < 9223372036854775807) (hp : ∀ s ∈ l, Fi K c.fid ([.S s] ++ c.toL) = some (.B (p s))) : Fi K 21 [u, c] = some (.B (l.any p)) := by
  refine e21 _ _ ?_
  have hn := fidx_nonneg p l
  rw [s37 hu hl hp]
  show some (U.B (decide ((0 : Int) ≤ fidx p l))) = _
  rw [hn]

/-- a string, cut at every '/' -/
def cutS : Bs → List Bs
  | [] => [[]]
  | c :: s => match decide (c = 47), cutS s with
    | true, ps => [] :: ps
    | false, p :: ps => (c :: p) :: ps
    | false, [] => [[c]]
theorem cut_ne : ∀ s, cutS s ≠ []
  | [] => by simp [cutS]
  | c :: s => by
    unfold cutS
    split <;> simp
theorem ix_cons (c : UInt8) (s : Bs) : Lib.indexByte (c :: s) 47 = if c = 47 then 0 else if Lib.indexByte s 47 = -1 then -1 else Lib.indexByte s 47 + 1 := by
  rw [Lib.indexByte]
  simp only [beq_iff_eq]
theorem cut_no : ∀ s, Lib.indexByte s 47 < 0 → cutS s = [s] ∧ s.count 47 = 0
  | [], _ => ⟨rfl, rfl⟩
  | c :: s, h => by
    have ih := cut_no s
    have hg := Lib.indexByte_ge s 47
    rw [ix_cons] at h
    by_cases hc : c = 47
    · rw [if_pos hc] at h; omega
    · rw [if_neg hc] at h
      by_cases hs : Lib.indexByte s 47 = -1
      · obtain ⟨i1, i2⟩ := ih (by omega)
        refine ⟨?_, by rw [List.count_cons, i2]; simp [hc]⟩
        unfold cutS
        rw [decide_eq_false hc, i1]
      · rw [if_neg hs] at h; omega
theorem cut_at : ∀ s (m : Nat), Lib.indexByte s 47 = (m : Nat) → m < s.length ∧ cutS s = s.take m :: cutS (s.drop (m + 1)) ∧ s.count 47 = (s.drop (m + 1)).count 47 + 1
  | [], m, h => by rw [Lib.indexByte] at h; omega
  | c :: s, m, h => by
    have hg := Lib.indexByte_ge s 47
    rw [ix_cons] at h
    by_cases hc : c = 47
    · rw [if_pos hc] at h
      have : m = 0 := by omega
      subst this
      subst hc
      refine ⟨by simp, ?_, by simp⟩
      rw [cutS]
      rfl
    · rw [if_neg hc] at h
      by_cases hs : Lib.indexByte s 47 = -1
      · rw [if_pos hs] at h; omega
      · rw [if_neg hs] at h
        obtain ⟨k, rfl⟩ : ∃ k, m = k + 1 := ⟨m - 1, by omega⟩
        obtain ⟨i1, i2, i3⟩ := cut_at s k (by omega)
        refine ⟨by simpa using i1, ?_, ?_⟩
        · rw [cutS, decide_eq_false hc, i2]
          rfl
        · rw [List.count_cons, i3]
          simp [hc]
theorem cut_len : ∀ s, (cutS s).length = s.count 47 + 1
  | [] => rfl
  | c :: s => by
    have ih := cut_len s
    by_cases hc : c = 47
    · subst hc
      rw [cutS]
      simp [ih]
    · rw [cutS, decide_eq_false hc]
      have hn := cut_ne s
      rw [List.count_cons]
      simp only [beq_iff_eq, hc, if_false, Nat.add_zero]
      rw [← ih]
      cases h : cutS s with
      | nil => exact absurd h hn
      | cons p ps => rfl
theorem setUs_eq : ∀ (l : List U) (i : Nat) (x : U), setUs l i x = l.set i x
  | [], i, x => by cases i <;> rfl
  | y :: l, 0, x => rfl
  | y :: l, i + 1, x => by
    rw [List.set_cons_succ, ← setUs_eq l i x]; rfl
theorem s49 (s : Bs) : Fi K 49 [.S s, .S [47]] = some (.I (Lib.countByte s 47 : Nat)) := Fi_prim (f := countU) rfl rfl
theorem s50 (s : Bs) : Fi K 50 [.S s, .S [47]] = some (.I (Lib.indexByte s 47)) := Fi_prim (f := indexU) rfl rfl
end Go.Proofs.YtnahhhaicalmcaaDoor
end
section
namespace Go.Proofs.YtnahhhaicalmcaaDoor
open Go.Ab
set_option linter.unusedVariables false
set_option linter.unusedSimpArgs false
set_option maxRecDepth 100000

theorem cut_count (s : Bs) : Lib.countByte s 47 = s.count 47 := rfl
theorem l41 : ∀ (n : Nat) (s : Bs) (N i : Nat) (z : Bool) (x : List U), s.length ≤ 4194304 → s.count 47 = n → i + n = N → N ≤ 4194304 → x.length = N + 1 →
    ∃ s' x', Lp K 41 0 ⟨[.S s, .S [47], .I 0, .I (N : Nat), .B z, .I (i : Nat)], [x]⟩ = some (.brk ⟨[.S s', .B z, .I (N : Nat)], [x']⟩) ∧ x'.length = N + 1 ∧ x'.take N ++ [.S s'] = x.take i ++ (cutS s).map U.S
  | 0, s, N, i, z, x, hs, hn, hi, hN, hx => by
    have hiN : i = N := by omega
    subst hiN
    have h1 : ¬ ((i : Int) < (i : Int)) := by omega
    have hc : cutS s = [s] := by
      rcases Int.lt_or_le (Lib.indexByte s 47) 0 with h | h
      · exact (cut_no s h).1
      · obtain ⟨m, hm⟩ := Int.eq_ofNat_of_zero_le h
        have := (cut_at s m hm).2.2
        omega
    refine ⟨s, x, l41_0 _ _ _ _ _ _ _ ?_, hx, by rw [hc]; rfl⟩
    simp only [h1, decide_false, cond_false]
  | n + 1, s, N, i, z, x, hs, hn, hi, hN, hx => by
    have h1 : ((i : Int) < (N : Int)) := by omega
    have hge : 0 ≤ Lib.indexByte s 47 := by
      rcases Int.lt_or_le (Lib.indexByte s 47) 0 with h | h
      · have := (cut_no s h).2; omega
      · exact h
    obtain ⟨m, hm⟩ := Int.eq_ofNat_of_zero_le hge
    obtain ⟨c1, c2, c3⟩ := cut_at s m hm
    obtain ⟨s', x', i1, i2, i3⟩ := l41 n (s.drop (m + 1)) N (i + 1) z (x.set i (.S (s.take m))) (by rw [List.length_drop]; omega) (by omega) (by omega) hN (by rw [List.length_set]; exact hx)
    refine ⟨s', x', l41_0 _ _ _ _ _ _ _ ?_, i2, ?_⟩
    · have h2 : (0 : Int) ≤ (i : Int) := by omega
      have h3 : (i : Int) < ((x.length : Nat) : Int) := by omega
      have h4 : (0 : Int) ≤ (m : Int) := by omega
      have h5 : ¬ ((m : Int) < 0) := by omega
      have h6 : (m : Int) ≤ ((s.length : Nat) : Int) := by omega
      have h7 : ((m + 1 : Nat) : Int) ≤ ((s.length : Nat) : Int) := by omega
      have h8 : (0 : Int) ≤ ((m + 1 : Nat) : Int) := by omega
      have h9 : ((s.length : Nat) : Int) ≤ ((s.length : Nat) : Int) := by omega
      rw [s50]
      have hm' : (U.I (Lib.indexByte s 47)).toI = (m : Int) := hm
      have w0 : IntKind.wrap .i64 ((m : Int) + 0) = (m : Int) := by rw [w64 (by omega) (by omega)]; omega
      have w1 : IntKind.wrap .i64 ((m : Int) + (([47] : Bs).length : Nat)) = ((m + 1 : Nat) : Int) := by
        show IntKind.wrap .i64 ((m : Int) + 1) = _
        exact w64s (by omega)
      have w2 : IntKind.wrap .i64 ((i : Int) + 1) = ((i + 1 : Nat) : Int) := w64s (by omega)
      rw [Option.bind_some, hm', w0, w1, w2]
      simp only [h1, h2, h3, h4, h5, h6, h7, h8, h9, decide_true, decide_false, cond_true, cond_false, Bool.and_self, Int.toNat_natCast, List.take_length, Nat.zero_add, List.drop_zero, setUs_eq]
      exact i1
    · rw [i3, c2, List.map_cons]
      have : (x.set i (.S (s.take m))).take (i + 1) = x.take i ++ [.S (s.take m)] := by
        rw [List.take_add_one, List.getElem?_set_self (by omega), List.take_set_of_le (Nat.le_refl _)]; rfl
      rw [this]
      simp
theorem s30 {s : Bs} (hs : s.length ≤ 4194304) : Fi K 30 [.S s, .S [47]] = some (.ofL false ((cutS s).map U.S)) := by
  have hc : s.count 47 ≤ s.length := List.count_le_length
  obtain ⟨s', x', i1, i2, i3⟩ := l41 (s.count 47) s (s.count 47) 0 false (List.replicate (s.count 47 + 1) (U.S [])) hs rfl (by omega) (by omega) (by simp)
  refine e30 _ _ ?_
  rw [show Fi K 41 [.S s, .S [47], .I 0, .I (-1)] = some (.ofL false ((cutS s).map U.S)) from ?_]
  · rfl
  refine e41 _ _ _ _ ?_
  have w0 : IntKind.wrap .i64 (((s.count 47 : Nat) : Int) + 1) = ((s.count 47 + 1 : Nat) : Int) := w64s (by omega)
  have w1 : IntKind.wrap .i64 (((s.length : Nat) : Int) + 1) = ((s.length + 1 : Nat) : Int) := w64s (by omega)
  have w2 : IntKind.wrap .i64 (((s.count 47 + 1 : Nat) : Int) - 1) = ((s.count 47 : Nat) : Int) := by rw [w64 (by omega) (by omega)]; omega
  have h1 : ¬ ((-1 : Int) = 0) := by omega
  have h2 : ¬ (([47] : Bs) = []) := by simp
  have h3 : ((-1 : Int) < 0) := by omega
  have h4 : ¬ (((s.length + 1 : Nat) : Int) < ((s.count 47 + 1 : Nat) : Int)) := by omega
  have h5 : (0 : Int) ≤ ((s.count 47 + 1 : Nat) : Int) := by omega
  have h6 : ((s.count 47 + 1 : Nat) : Int) ≤ ((s.count 47 + 1 : Nat) : Int) := by omega
  have h7 : ((s.count 47 + 1 : Nat) : Int) ≤ 8796093022208 := by omega
  have h8 : (0 : Int) ≤ ((s.count 47 : Nat) : Int) := by omega
  have h9 : ((s.count 47 : Nat) : Int) < ((s.count 47 + 1 : Nat) : Int) := by omega
  rw [s49, Option.bind_some]
  have w0' : IntKind.wrap .i64 ((U.I ((Lib.countByte s 47 : Nat) : Int)).toI + 1) = ((s.count 47 + 1 : Nat) : Int) := w0
  rw [w0']
  simp only [h1, h2, h3, decide_true, decide_false, cond_true, cond_false, loK, Option.bind_some, nth_zero, nth_succ, nthL_zero, toI_I, toS_S]
  simp only [w1, h4, h5, h6, h7, decide_true, decide_false, cond_true, cond_false, Bool.and_self, Int.toNat_natCast]
  have i1' : Lp K 41 0 ⟨[.S s, .S [47], .I 0, .I ((s.count 47 : Nat) : Int), .B false, .I 0], [List.replicate (s.count 47 + 1) (U.S [])]⟩ = _ := i1
  rw [w2, i1']
  simp only [Option.bind_some, nth_zero, nth_succ, nthL_zero, toI_I, toS_S, toB_B, setUs_eq, Nat.zero_add, Int.toNat_natCast, List.length_set, i2]
  simp only [w0, h5, h6, h8, h9, decide_true, cond_true, Bool.and_self, Int.toNat_natCast, Bool.false_and, List.drop_zero, Nat.sub_zero]
  congr 2
  have : (x'.set (s.count 47) (.S s')).take (s.count 47 + 1) = x'.take (s.count 47) ++ [.S s'] := by
    rw [List.take_add_one, List.getElem?_set_self (by omega), List.take_set_of_le (Nat.le_refl _)]; rfl
  rw [this, i3]
  rfl
/-- is it a path -/
def isP (s : Bs) : Bool := decide ((cutS s).length ≤ 8) && (cutS s).all isNm
theorem cut_mem : ∀ (s p : Bs), p ∈ cutS s → p.length ≤ s.length
  | [], p, h => by
    rw [show cutS [] = [[]] from rfl, List.mem_singleton] at h
    subst h; exact Nat.le_refl _
  | c :: s, p, h => by
    have ih := cut_mem s
    rw [cutS] at h
    split at h
    · rcases List.mem_cons.1 h with h | h
      · subst h; exact Nat.zero_le _
      · have := ih p h; simp; omega
    · rename_i q ps _ e
      rcases List.mem_cons.1 h with h | h
      · subst h
        have := ih q (by rw [e]; exact List.mem_cons_self ..)
        simpa using this
      · have := ih p (by rw [e]; exact List.mem_cons_of_mem _ h); simp; omega
    · rename_i _ e
      exact absurd e (cut_ne s)
theorem s15 {s : Bs} (hs : s.length ≤ 4194304) : Fi K 15 [.S s] = some (.B (isP s)) := by
  refine e15 _ ?_
  have hq : Fi K 21 [.ofL false ((cutS s).map U.S), .C 31 0 (U.nth [])] = some (.B ((cutS s).any fun p => !isNm p)) := s21 (Is.mk' _ _ _) (by have := cut_len s; have : s.count 47 ≤ s.length := List.count_le_length; omega) fun p hp => by
    have := cut_mem s p hp
    exact s31 (s := p) (by omega)
  rw [s30 hs, Option.bind_some]
  rw [hq]
  have c1 : ((((U.ofL false ((cutS s).map U.S)).len : Nat) : Int) ≤ 8) ↔ (cutS s).length ≤ 8 := by rw [len_ofL', List.length_map]; omega
  unfold isP
  rw [decide_eq_decide.2 c1]
  have c2 : (!((cutS s).any fun p => !isNm p)) = (cutS s).all isNm := by
    rw [List.not_any_eq_all_not]; simp
  rw [← c2]
  cases decide ((cutS s).length ≤ 8) <;> rfl
/-- what stands before the last '/' of the first k bytes -/
def parU (s : Bs) : Nat → Bs
  | 0 => []
  | k + 1 => bif decide (s.getD k 0 = 47) then s.take k else parU s k
/-- what stands before the last '/' -/
def par (s : Bs) : Bs := parU s s.length
theorem u8_47 (c : UInt8) : (((c.toNat : Nat) : Int) = 47) ↔ c = 47 := by
  constructor
  · intro h
    have : c.toNat = (47 : UInt8).toNat := by show c.toNat = 47; omega
    exact UInt8.toNat_inj.1 this
  · intro h; subst h; rfl
theorem l46 {s : Bs} (hs : s.length ≤ 4194304) : ∀ k, k ≤ s.length → ∃ o, Lp K 46 0 ⟨[.S s, .I 47, .I ((k : Int) - 1)], []⟩ = some o ∧ ((∃ j : Nat, j ≤ s.length ∧ o = .ret (.I (j : Nat)) ∧ parU s k = s.take j) ∨ (o = .brk ⟨[], []⟩ ∧ parU s k = []))
  | 0, h => ⟨_, l46_0 _ _ _ (by
      have h1 : ¬ ((0 : Int) ≤ ((0 : Nat) : Int) - 1) := by omega
      simp only [h1, decide_false, cond_false]), .inr ⟨rfl, rfl⟩⟩
  | k + 1, h => by
    have e1 : ((k + 1 : Nat) : Int) - 1 = (k : Int) := by omega
    have h1 : (0 : Int) ≤ (k : Int) := by omega
    have h2 : (k : Int) < ((s.length : Nat) : Int) := by omega
    obtain ⟨o, o1, o2⟩ := l46 hs k (by omega)
    rw [e1]
    by_cases hc : s.getD k 0 = 47
    · refine ⟨.ret (.I (k : Nat)), l46_0 _ _ _ ?_, .inl ⟨k, by omega, rfl, ?_⟩⟩
      · simp only [h1, h2, decide_true, cond_true, Bool.and_self, Int.toNat_natCast, (u8_47 _).2 hc]
      · rw [parU, decide_eq_true hc]; rfl
    · refine ⟨o, l46_0 _ _ _ ?_, ?_⟩
      · have h3 : ¬ ((((s.getD k 0).toNat : Nat) : Int) = 47) := fun e => hc ((u8_47 _).1 e)
        simp only [h1, h2, h3, decide_true, decide_false, cond_true, cond_false, Bool.and_self, Int.toNat_natCast]
        rw [w64 (by omega) (by omega)]
        exact o1
      · rw [parU, decide_eq_false hc]
        exact o2
theorem s23 {s : Bs} (hs : s.length ≤ 4194304) : Fi K 23 [.S s] = some (.S (par s)) := by
  obtain ⟨o, o1, o2⟩ := l46 hs s.length (Nat.le_refl _)
  have w0 : IntKind.wrap .i64 (((s.length : Nat) : Int) - 1) = ((s.length : Nat) : Int) - 1 := w64 (by omega) (by omega)
  have h46 : Fi K 46 [.S s, .I 47] = some (loV o) := by
    refine e46 _ _ ?_
    rw [w0, o1]
    cases o with
    | ret v => rfl
    | brk q => rfl
  have h38 : ∃ n : Int, Fi K 38 [.S s, .I 47] = some (.I n) ∧ ((n = -1 ∧ par s = []) ∨ ∃ j : Nat, j ≤ s.length ∧ n = (j : Nat) ∧ par s = s.take j) := by
    rcases o2 with ⟨j, a, rfl, c⟩ | ⟨rfl, c⟩
    · exact ⟨_, e38 _ _ (by rw [h46]; rfl), .inr ⟨j, a, rfl, c⟩⟩
    · exact ⟨_, e38 _ _ (by rw [h46]; rfl), .inl ⟨rfl, c⟩⟩
  obtain ⟨n, n1, n2⟩ := h38
  refine e23 _ ?_
  rw [n1, Option.bind_some]
  change (bif (decide ((0 : Int) ≤ (bif decide ((0 : Int) < n) then n else 0)) && decide ((bif decide ((0 : Int) < n) then n else 0) ≤ ((s.length : Nat) : Int))) then some (U.S ((s.take (bif decide ((0 : Int) < n) then n else 0).toNat).drop 0)) else none) = _
  rcases n2 with ⟨rfl, c⟩ | ⟨j, a, rfl, c⟩
  · have h1 : (0 : Int) ≤ ((s.length : Nat) : Int) := by omega
    have h2 : ¬ ((0 : Int) < -1) := by omega
    simp only [h1, h2, decide_false, cond_false, decide_true, cond_true, Bool.and_self, Int.le_refl, Int.toNat_zero, List.take_zero, List.drop_nil, c]
  · have h1 : (0 : Int) ≤ (j : Int) := by omega
    have h2 : (j : Int) ≤ ((s.length : Nat) : Int) := by omega
    have h3 : (bif decide ((0 : Int) < (j : Int)) then (j : Int) else 0) = (j : Int) := by
      by_cases h : (0 : Int) < (j : Int)
      · rw [decide_eq_true h]; rfl
      · rw [decide_eq_false h]; show (0 : Int) = _; omega
    rw [h3]
    simp only [h1, h2, decide_true, cond_true, Bool.and_self, Int.toNat_natCast, List.drop_zero, c]
theorem l11 {s : Bs} (hs : s.length ≤ 4194304) : ∀ k, k ≤ s.length → ∃ o, Lp K 11 0 ⟨[.S s, .I ((k : Int) - 1)], []⟩ = some o ∧ (o = .ret (.S (parU s k)) ∨ (o = .brk ⟨[], []⟩ ∧ parU s k = []))
  | 0, h => ⟨_, l11_0 _ _ (by
      have h1 : ¬ ((0 : Int) ≤ ((0 : Nat) : Int) - 1) := by omega
      simp only [h1, decide_false, cond_false]), .inr ⟨rfl, rfl⟩⟩
  | k + 1, h => by
    have e1 : ((k + 1 : Nat) : Int) - 1 = (k : Int) := by omega
    have h1 : (0 : Int) ≤ (k : Int) := by omega
    have h2 : (k : Int) < ((s.length : Nat) : Int) := by omega
    have h4 : (k : Int) ≤ ((s.length : Nat) : Int) := by omega
    obtain ⟨o, o1, o2⟩ := l11 hs k (by omega)
    rw [e1]
    by_cases hc : s.getD k 0 = 47
    · refine ⟨.ret (.S (s.take k)), l11_0 _ _ ?_, .inl ?_⟩
      · simp only [h1, h2, h4, decide_true, cond_true, Bool.and_self, Int.toNat_natCast, (u8_47 _).2 hc, List.drop_zero]
      · rw [parU, decide_eq_true hc]; rfl
    · refine ⟨o, l11_0 _ _ ?_, ?_⟩
      · have h3 : ¬ ((((s.getD k 0).toNat : Nat) : Int) = 47) := fun e => hc ((u8_47 _).1 e)
        simp only [h1, h2, h3, decide_true, decide_false, cond_true, cond_false, Bool.and_self, Int.toNat_natCast]
        rw [w64 (by omega) (by omega)]
        exact o1
      · rw [parU, decide_eq_false hc]
        exact o2
theorem s11 {s : Bs} (hs : s.length ≤ 4194304) : Fi K 11 [.S s] = some (.S (par s)) := by
  obtain ⟨o, o1, o2⟩ := l11 hs s.length (Nat.le_refl _)
  have w0 : IntKind.wrap .i64 (((s.length : Nat) : Int) - 1) = ((s.length : Nat) : Int) - 1 := w64 (by omega) (by omega)
  refine e11 _ ?_
  rw [w0, o1]
  rcases o2 with rfl | ⟨rfl, c⟩
  · rfl
  · show some (U.S []) = _
    rw [show par s = parU s s.length from rfl, c]
/-- is s the folder top, or below it -/
def bel (s top : Bs) : Bool := (decide (top.length ≤ s.length) && decide (s.take top.length = top)) && (decide (s.drop top.length = []) || decide ((s.drop top.length).getD 0 0 = 47))
theorem s53 (s p : Bs) : Fi K 53 [.S s, .S p] = some (.B (decide (p.length ≤ s.length) && decide (s.take p.length = p))) := by
  refine e53 _ _ ?_
  have h1 : (0 : Int) ≤ ((p.length : Nat) : Int) := by omega
  have c : (((p.length : Nat) : Int) ≤ ((s.length : Nat) : Int)) ↔ p.length ≤ s.length := by omega
  rw [decide_eq_decide.2 c, decide_eq_true h1, List.drop_zero]
  cases decide (p.length ≤ s.length) <;> rfl
theorem s47 (s p : Bs) : Fi K 47 [.S s, .S p] = some (bif (decide (p.length ≤ s.length) && decide (s.take p.length = p)) then .ofL false [.S (s.drop p.length), .B true] else .ofL false [.S s, .B false]) := by
  refine e47 _ _ ?_
  rw [s53]
  have h1 : (0 : Int) ≤ ((p.length : Nat) : Int) := by omega
  have h3 : ((s.length : Nat) : Int) ≤ ((s.length : Nat) : Int) := by omega
  by_cases h : p.length ≤ s.length
  · have h2 : ((p.length : Nat) : Int) ≤ ((s.length : Nat) : Int) := by omega
    by_cases h4 : s.take p.length = p
    · simp only [h, h1, h2, h3, h4, decide_true, Bool.and_self, Option.bind_some, toB_B, Bool.not_true, cond_false, cond_true, List.take_length]
    · simp only [h, h4, decide_true, decide_false, Bool.and_false, Option.bind_some, toB_B, Bool.not_false, cond_false, cond_true]
  · simp only [h, decide_false, Bool.false_and, Option.bind_some, toB_B, Bool.not_false, cond_false, cond_true]
theorem s26 (s p : Bs) : Fi K 26 [.S s, .S p] = some (.B (bel s p)) := by
  refine e26 _ _ ?_
  rw [show Fi K 39 [.S s, .S p] = some (bif (decide (p.length ≤ s.length) && decide (s.take p.length = p)) then .ofL false [.S (s.drop p.length), .B true] else .ofL false [.S s, .B false]) from e39 _ _ (by
    rw [s47]
    cases (decide (p.length ≤ s.length) && decide (s.take p.length = p)) <;> rfl)]
  unfold bel
  rw [Option.bind_some]
  cases h : (decide (p.length ≤ s.length) && decide (s.take p.length = p))
  · simp only [cond_false, get_ofL', nth_zero, nth_succ, toB_B, Bool.false_and, Bool.not_false, Bool.or_true, cond_true]
  · simp only [cond_true, get_ofL', nth_zero, nth_succ, toB_B, toS_S, Bool.true_and]
    generalize s.drop p.length = t
    cases t with
    | nil => rfl
    | cons c t =>
      have h1 : (0 : Int) < (((c :: t).length : Nat) : Int) := by simp
      simp only [h1, decide_true, Bool.true_or, cond_true]
      show some (U.B (decide _ || decide ((((c.toNat : Nat)) : Int) = 47))) = some (U.B (decide _ || decide (c = 47)))
      exact congrArg (fun b => some (U.B (decide (c :: t = []) || b))) (decide_eq_decide.2 (u8_47 c))
theorem s27 (s p : Bs) : Fi K 27 [.S s, .S p] = some (.B (bel s p)) := e27 _ _ (by rw [s26]; rfl)
theorem s25 (s p : Bs) : Fi K 25 [.S s, .S p] = some (.B (decide (s = p))) := e25 _ _ rfl
theorem s22 {s : Bs} (p : Bs) (hs : s.length ≤ 4194304) : Fi K 22 [.S s, .S p] = some (.B (decide (par s = p))) := e22 _ _ (by rw [s23 hs]; rfl)
theorem s16 (a b : Int) : Fi K 16 [.I a, .I b] = some (.ofL false [.I a, .I b]) := e16 a b rfl
theorem s51 (s : Bs) : Fi K 51 [.S s] = some (.B false) := e51 s (by simp)
theorem s43 (s : Bs) : Fi K 43 [.S s] = some (.B false) := e43 s (by simp)
theorem s42 (s t : Bs) : Fi K 42 [.S s, .S t] = some (.B (Op.bytesLess s t)) := e42 _ _ (by rw [s51]; simp)
/-- is it there -/
def has (l : List Bs) (s : Bs) : Bool := l.any fun t => decide (s = t)
theorem has_iff {l : List Bs} {s : Bs} : has l s = true ↔ s ∈ l := by
  unfold has
  rw [List.any_eq_true]
  constructor
  · rintro ⟨t, h, e⟩; rw [of_decide_eq_true e]; exact h
  · exact fun h => ⟨s, h, by simp⟩
theorem l33 {u : U} {l : List Bs} (s : Bs) (hu : Is U.S u l) (hl : l.length < 9223372036854775807) : ∀ r i, l.drop i = r → ∃ o, Lp K 33 0 ⟨[u, .S s, .I (l.length : Nat), .I (i : Nat)], []⟩ = some o ∧ (bif has r s then ∃ j : Nat, o = .ret (.I (j : Nat)) else o = .brk ⟨[], []⟩)
  | [], i, e => by
    have := drop_nil_ge e
    have h1 : ¬ ((i : Int) < (l.length : Int)) := by omega
    exact ⟨_, l33_0 _ _ _ _ (by simp only [h1, decide_false, cond_false]), rfl⟩
  | x :: r, i, e => by
    have k := Cur.of e
    have hlt := k.lt
    have h1 : ((i : Int) < (l.length : Int)) := by omega
    have h2 : (0 : Int) ≤ (i : Int) := by omega
    have hx := hu.get i x k.elem
    obtain ⟨o, o1, o2⟩ := l33 s hu hl r (i + 1) k.next
    by_cases hs : s = x
    · refine ⟨.ret (.I (i : Nat)), l33_0 _ _ _ _ ?_, ?_⟩
      · simp only [h1, h2, decide_true, cond_true, Bool.and_self, Int.toNat_natCast, hu.len, hx, toS_S, hs]
      · simp only [has, List.any_cons, hs, decide_true, Bool.true_or, cond_true]; exact ⟨i, rfl⟩
    · refine ⟨o, l33_0 _ _ _ _ ?_, ?_⟩
      · rw [w64s (by omega)]
        simp only [h1, h2, decide_true, cond_true, Bool.and_self, Int.toNat_natCast, hu.len, hx, toS_S, hs, decide_false, cond_false, o1]
      · simpa only [has, List.any_cons, hs, decide_false, Bool.false_or] using o2
theorem s17 {u : U} {l : List Bs} (s : Bs) (hu : Is U.S u l) (hl : l.length < 9223372036854775807) : Fi K 17 [u, .S s] = some (.B (has l s)) := by
  obtain ⟨o, o1, o2⟩ := l33 s hu hl l 0 rfl
  have h33 : Fi K 33 [u, .S s] = some (loV o) := by
    refine e33 _ _ ?_
    rw [hu.len, show (U.I 0) = U.I ((0 : Nat) : Int) from rfl, o1]
    cases o <;> rfl
  refine e17 _ _ ?_
  rw [h33]
  cases hc : has l s with
  | true =>
    rw [hc] at o2
    obtain ⟨j, rfl⟩ := o2
    have : (0 : Int) ≤ (j : Int) := by omega
    simp [loV, this]
  | false =>
    rw [hc] at o2
    have o2 : o = .brk ⟨[], []⟩ := o2
    subst o2
    simp [loV]
theorem l12 {u : U} {l : List Bs} (s : Bs) (hu : Is U.S u l) (hl : l.length < 9223372036854775807) : ∀ r i, l.drop i = r → Lp K 12 0 ⟨[u, .S s, .I (i : Nat)], []⟩ = some (bif has r s then .ret (.B true) else .brk ⟨[], []⟩)
  | [], i, e => by
    have := drop_nil_ge e
    have h1 : ¬ ((i : Int) < (l.length : Int)) := by omega
    exact l12_0 _ _ _ (by rw [hu.len]; simp only [h1, decide_false, cond_false]; rfl)
  | x :: r, i, e => by
    have k := Cur.of e
    have hlt := k.lt
    have h1 : ((i : Int) < (l.length : Int)) := by omega
    have h2 : (0 : Int) ≤ (i : Int) := by omega
    have hx := hu.get i x k.elem
    have ih := l12 s hu hl r (i + 1) k.next
    refine l12_0 _ _ _ ?_
    rw [w64s (by omega)]
    by_cases hs : s = x
    · simp only [h1, h2, decide_true, cond_true, Bool.and_self, Int.toNat_natCast, hu.len, hx, toS_S, hs, has, List.any_cons, Bool.true_or]
    · have hs' : ¬ x = s := fun e => hs e.symm
      simp only [h1, h2, decide_true, cond_true, Bool.and_self, Int.toNat_natCast, hu.len, hx, toS_S, hs, hs', decide_false, cond_false, ih, has, List.any_cons, Bool.false_or]
theorem s12 {u : U} {l : List Bs} (s : Bs) (hu : Is U.S u l) (hl : l.length < 9223372036854775807) : Fi K 12 [u, .S s] = some (.B (has l s)) := by
  refine e12 _ _ ?_
  rw [show (U.I 0) = U.I ((0 : Nat) : Int) from rfl, l12 s hu hl l 0 rfl]
  cases has l s <;> rfl
theorem l14 {u v : U} {l m : List Bs} (hu : Is U.S u l) (hv : Is U.S v m) (hl : l.length < 9223372036854775807) (hm : l.length = m.length) : ∀ r q i, l.drop i = r → m.drop i = q → Lp K 14 0 ⟨[u, v, .I (i : Nat)], []⟩ = some (bif decide (r = q) then .brk ⟨[], []⟩ else .ret (.B false))
  | [], q, i, e, e' => by
    have := drop_nil_ge e
    have h1 : ¬ ((i : Int) < (l.length : Int)) := by omega
    have : q = [] := by rw [← e', List.drop_eq_nil_of_le (by omega)]
    subst this
    exact l14_0 _ _ _ (by rw [hu.len]; simp only [h1, decide_false, cond_false]; rfl)
  | x :: r, [], i, e, e' => by
    have := drop_nil_ge e'
    have := (Cur.of e).lt
    omega
  | x :: r, y :: q, i, e, e' => by
    have k := Cur.of e
    have k' := Cur.of e'
    have hlt := k.lt
    have h1 : ((i : Int) < (l.length : Int)) := by omega
    have h2 : (0 : Int) ≤ (i : Int) := by omega
    have h3 : ((i : Int) < (m.length : Int)) := by omega
    have hx := hu.get i x k.elem
    have hy := hv.get i y k'.elem
    have ih := l14 hu hv hl hm r q (i + 1) k.next k'.next
    refine l14_0 _ _ _ ?_
    rw [w64s (by omega)]
    by_cases hs : x = y
    · subst hs
      simp only [h1, h2, h3, decide_true, cond_true, Bool.and_self, Int.toNat_natCast, hu.len, hv.len, hx, hy, toS_S, Bool.not_true, cond_false, ih]
      congr 2
      exact decide_eq_decide.2 ⟨fun h => by rw [h], fun h => by cases h; rfl⟩
    · have : ¬ (x :: r = y :: q) := fun h => by cases h; exact hs rfl
      simp only [h1, h2, h3, decide_true, cond_true, Bool.and_self, Int.toNat_natCast, hu.len, hv.len, hx, hy, toS_S, hs, this, decide_false, Bool.not_false, cond_false]
theorem s14 {u v : U} {l m : List Bs} (hu : Is U.S u l) (hv : Is U.S v m) (hl : l.length < 9223372036854775807) : Fi K 14 [u, v] = some (.B (decide (l = m))) := by
  refine e14 _ _ ?_
  rw [hu.len, hv.len]
  by_cases h : l.length = m.length
  · have h1 : ((l.length : Nat) : Int) = ((m.length : Nat) : Int) := by omega
    rw [decide_eq_true h1, Bool.not_true, cond_false, show (U.I 0) = U.I ((0 : Nat) : Int) from rfl, l14 hu hv hl h l m 0 rfl rfl]
    cases decide (l = m) <;> rfl
  · have h1 : ¬ ((l.length : Nat) : Int) = ((m.length : Nat) : Int) := by omega
    have h2 : ¬ l = m := fun e => h (by rw [e])
    rw [decide_eq_false h1, decide_eq_false h2, Bool.not_false, cond_true]
end Go.Proofs.YtnahhhaicalmcaaDoor
end
