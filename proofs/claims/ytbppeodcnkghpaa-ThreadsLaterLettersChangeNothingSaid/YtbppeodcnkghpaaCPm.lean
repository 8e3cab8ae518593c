/- Order; equal numbers; the example; the first law. -/
import Derived.Test.YtbppeodcnkghpaaCPj
set_option linter.unusedVariables false
set_option linter.unusedSimpArgs false
section
namespace Go.Proofs.Ytbppeodcnkghpaa
open Go.Ab
set_option linter.unusedVariables false
set_option linter.unusedSimpArgs false
set_option maxRecDepth 100000

theorem s18 {us : List U} {r : U} (h : sortF (Fi K) us = some r) : Fi K 18 us = some r := Fi_primF rfl fun Fs hF => sortF_ev h Fs hF
theorem l8_0' (u : U) (z2 z3 z6 z7 : Bool) (x2 x3 x6 : List U) (a4 b4 : Int) (n : Nat) (hn : n ≤ 1000000) : ∀ k j, j + k = n →
    Lp K 8 0 ⟨[u, .B z2, .B z3, .I a4, .I b4, .B z6, .B z7, .I (n : Nat), .I (j : Nat)], [x2, x3, x6, idx j ++ List.replicate k (.I 0)]⟩ = some (.brk ⟨[u, .B z2, .B z3, .I a4, .I b4, .B z6, .B z7], [x2, x3, x6, idx n]⟩)
  | 0, j, e => by
    have h1 : ¬ ((j : Int) < (n : Int)) := by omega
    have : j = n := by omega
    subst this
    refine l8_0 _ _ _ _ _ _ _ _ _ _ _ _ _ ?_
    simp only [h1, decide_false, cond_false, List.replicate_zero, List.append_nil]
  | k + 1, j, e => by
    have h1 : ((j : Int) < (n : Int)) := by omega
    have h2 : (0 : Int) ≤ (j : Int) := by omega
    have h3 : ((j : Int) < (((idx j ++ List.replicate (k + 1) (U.I 0)).length : Nat) : Int)) := by rw [List.length_append, idx_len, List.length_replicate]; omega
    have ih := l8_0' u z2 z3 z6 z7 x2 x3 x6 a4 b4 n hn k (j + 1) (by omega)
    have hs : setUs (idx j ++ List.replicate (k + 1) (U.I 0)) j (.I (j : Nat)) = idx (j + 1) ++ List.replicate k (U.I 0) := by
      have := setUs_mid (idx j) (U.I 0) (U.I (j : Nat)) (List.replicate k (U.I 0))
      rw [idx_len] at this
      rw [List.replicate_succ, this]
      simp [idx, List.range_succ]
    refine l8_0 _ _ _ _ _ _ _ _ _ _ _ _ _ ?_
    rw [w64s (by omega)]
    simp only [h1, h2, h3, decide_true, Bool.and_self, cond_true, Int.toNat_natCast, Nat.zero_add, hs, ih]
def shown (l : List Lt) : List (Nat × Int) := showL l (l.length + 1) (-1) 0
theorem s8 {u : U} {l : List Lt} (hu : LtsU u l) : Fi K 8 [u] = some (bif decide ((lfault l).1 = 0) then .ofL false [.ofL (firsts (shown l)).isEmpty (firsts (shown l)), .ofL (seconds (shown l)).isEmpty (seconds (shown l)), f2 0 0] else .ofL false [.nil, .nil, f2 (lfault l).1 (lfault l).2]) := by
  refine e8 _ ?_
  rw [s11 hu]
  simp only [Option.bind_some]
  by_cases h : (lfault l).1 = 0
  · have g := good_of h
    have hl : l.length ≤ 1000000 := by have := g.len; omega
    have h17 := s17 hu hl g.refs g.uni
    have h0 := lfault_good h
    have hlen := showL_len (l := l) (l.length + 1) (-1) 0
    have h8 := l8_0' u true true false false [] [] (l.map fun x => .I (parOf l x)) 0 0 l.length hl l.length 0 (by omega)
    have e0 : idx 0 ++ List.replicate l.length (U.I 0) = List.replicate l.length (U.I 0) := rfl
    rw [e0, show (U.I ((0 : Nat) : Int)) = U.I 0 from rfl] at h8
    have hsort := s18 (sortF_at hu hl g.uni)
    have h21 := s21 hl true true (l.length + 1) (-1) 0 [] [] (by omega) (by omega) (by have := laterN_le l (-1); omega) (by simp; omega) (by simp; omega)
    unfold inX oU pU at h21
    have h3 : (((l.length : Nat) : Int) ≤ 17592186044416) := by omega
    have h4 : (0 : Int) ≤ ((l.length : Nat) : Int) := by omega
    have h5 : ((ordL l).map fun i => U.I (i : Nat)).length = (idx l.length).length := by rw [List.length_map, (ordL_perm l).length_eq, List.length_range, idx_len]
    rw [h0, h17]
    simp only [f2, get_ofL', nth_zero, nth_succ, toI_I, decide_true, Bool.and_self, Bool.and_true, Bool.not_true, cond_false, cond_true, Option.bind_some, isNil_ofL', toL_ofL', Bool.false_and, hu.len, List.length_replicate, h3, h4, Int.le_refl, h8, loK_some_brk, nthL_zero, nthL_succ, toB_B, hsort, List.map_cons, List.map_nil, h5, h21]
    simp only [outX, get_ofL', nth_zero, nth_succ, toL_ofL', List.map_cons, List.map_nil, nthL_zero, nthL_succ, toB_B, Bool.true_and, List.nil_append]
    rfl
  · simp only [f2, get_ofL', nth_zero, nth_succ, toI_I, h, decide_false, Bool.false_and, Bool.not_false, cond_true, cond_false]
theorem l14' {u v : U} {a b : List Int} (hu : Is U.I u a) (hv : Is U.I v b) (hl : a.length = b.length) (hm : a.length ≤ 1000000) : ∀ r i, a.drop i = r → Lp K 14 0 ⟨[u, v, .I (i : Nat)], []⟩ = some (bif decide (r = b.drop i) then .brk ⟨[], []⟩ else .ret (.B false))
  | [], i, e => by
    have h0 := drop_nil_ge e
    have h1 : ¬ ((i : Int) < (a.length : Int)) := by omega
    refine l14_0 _ _ _ ?_
    rw [List.drop_eq_nil_of_le (by omega : b.length ≤ i)]
    simp only [hu.len, h1, decide_false, cond_false, decide_true, cond_true]
  | x :: r, i, e => by
    have k := Cur.of e
    have hi := k.lt
    have h1 : ((i : Int) < (a.length : Int)) := by omega
    have h2 : (0 : Int) ≤ (i : Int) := by omega
    have h3 : ((i : Int) < (b.length : Int)) := by omega
    have hy : b[i]? = some b[i] := List.getElem?_eq_getElem (by omega)
    have ih := l14' hu hv hl hm r (i + 1) k.next
    refine l14_0 _ _ _ ?_
    rw [w64s (by omega), ih]
    simp only [hu.len, hv.len, h1, h2, h3, decide_true, Bool.and_self, cond_true, Int.toNat_natCast, hu.get i x k.elem, hv.get i _ hy]
    rw [List.drop_eq_getElem_cons (by omega : i < b.length)]
    show (bif !decide (x = b[i]) then some (LO.ret (U.B false)) else some (bif decide (r = b.drop (i + 1)) then LO.brk ⟨[], []⟩ else LO.ret (.B false))) = _
    generalize b.drop (i + 1) = s
    generalize b[i] = y
    by_cases hx : x = y
    · subst hx
      by_cases hr : r = s
      · simp [hr]
      · simp [hr]
    · simp [hx]
theorem s14 {u v : U} {a b : List Int} (hu : Is U.I u a) (hv : Is U.I v b) (hm : a.length ≤ 1000000) : Fi K 14 [u, v] = some (.B (decide (a = b))) := by
  refine e14 _ _ ?_
  rw [hu.len, hv.len]
  by_cases hl : a.length = b.length
  · have h1 : ((a.length : Nat) : Int) = ((b.length : Nat) : Int) := by omega
    have h := l14' hu hv hl hm a 0 rfl
    rw [show (U.I ((0 : Nat) : Int)) = U.I 0 from rfl] at h
    simp only [h1, decide_true, Bool.not_true, cond_false, h, List.drop_zero]
    cases decide (a = b) <;> rfl
  · have h1 : ¬ ((a.length : Nat) : Int) = ((b.length : Nat) : Int) := by omega
    have h2 : ¬ a = b := fun e => hl (by rw [e])
    simp only [h1, h2, decide_false, Bool.not_false, cond_true]
def fstI (s : List (Nat × Int)) : List Int := s.map fun q => (q.1 : Int)
def sndI (s : List (Nat × Int)) : List Int := s.map fun q => q.2
theorem firsts_is (z : Bool) (s : List (Nat × Int)) : Is U.I (.ofL z (firsts s)) (fstI s) := by
  have : firsts s = (fstI s).map U.I := by simp [firsts, fstI]
  rw [this]; exact Is.mk' ..
theorem seconds_is (z : Bool) (s : List (Nat × Int)) : Is U.I (.ofL z (seconds s)) (sndI s) := by
  have : seconds s = (sndI s).map U.I := by simp [seconds, sndI]
  rw [this]; exact Is.mk' ..
theorem pars_is (z : Bool) (l : List Lt) : Is U.I (.ofL z (l.map fun x => .I (parOf l x))) (l.map (parOf l)) := by
  have : (l.map fun x => U.I (parOf l x)) = (l.map (parOf l)).map U.I := by simp
  rw [this]; exact Is.mk' ..
/-! the example -/
def exL : List Lt := [⟨[97], [], 0⟩, ⟨[98], [[120], [97]], 1⟩]
def exU : U := (U.ofL false [(U.ofL false [(U.S ([97] : List UInt8)), U.nil, (U.I 0)]), (U.ofL false [(U.S ([98] : List UInt8)), (U.ofL false [(U.S ([120] : List UInt8)), (U.S ([97] : List UInt8))]), (U.I 1)])])
theorem ex_lts : LtsU exU exL := ⟨rfl, fun i x h => by
  match i with
  | 0 => cases h; exact ⟨rfl, Is.nil U.S, rfl⟩
  | 1 => cases h; exact ⟨rfl, Is.mk' U.S false [[120], [97]], rfl⟩
  | i + 2 => cases h⟩
theorem ex_ord : ordL exL = [0, 1] := List.mergeSort_of_pairwise (by decide)
theorem ex_shown : shown exL = [(0, 0), (1, 1)] := by
  have hk : ∀ p, kids exL p = [0, 1].filter fun i => decide (parI exL i = p) := fun p => by unfold kids; rw [ex_ord]
  show showL exL 3 (-1) 0 = _
  simp only [showL, hk]
  decide
theorem s10 : Fi K 10 [] = some (.B true) := by
  refine e10 ?_
  have f : lfault exL = (0, 0) := by decide
  have p : (exL.map fun x => U.I (parOf exL x)) = [U.I (-1), U.I 0] := by rfl
  have h7 := s7 ex_lts
  have h8 := s8 ex_lts
  have h11 := s11 ex_lts
  rw [f] at h7 h8 h11
  rw [p] at h7
  rw [ex_shown] at h8
  unfold exU at h7 h8 h11
  have i1 := s14 (Is.mk' U.I false [-1, 0]) (Is.mk' U.I false [-1, 0]) (by decide)
  have i2 := s14 (Is.mk' U.I false [0, 1]) (Is.mk' U.I false [0, 1]) (by decide)
  rw [h7, h8, h11]
  simp only [Option.bind_some]
  show (bif true then (bif true then (Fi K 14 [U.ofL false ([-1, 0].map U.I), U.ofL false ([-1, 0].map U.I)]).bind fun r4 => (bif r4.toB then (bif true then (Fi K 14 [U.ofL false ([0, 1].map U.I), U.ofL false ([0, 1].map U.I)]).bind fun r5 => (bif r5.toB then (Fi K 14 [U.ofL false ([0, 1].map U.I), U.ofL false ([0, 1].map U.I)]).bind fun r6 => some (U.B r6.toB) else some (U.B false)) else some (U.B false)) else some (U.B false)) else some (U.B false)) else some (U.B false)) = _
  rw [i1, i2]
  rfl
end Go.Proofs.Ytbppeodcnkghpaa
end
section
namespace Go.Proofs.Ytbppeodcnkghpaa
open Go.Ab
set_option linter.unusedVariables false
set_option linter.unusedSimpArgs false
set_option maxRecDepth 100000

theorem l3_0' {u pu : U} {l : List Lt} (hu : LtsU u l) (hl : l.length ≤ 1000000) (hU : Uni l) (hr : ∀ x ∈ l, x.refs.length ≤ 1000000) (hp : Is U.I pu (l.map (parOf l))) (x5 x6 : U) : ∀ r i, l.drop i = r → Lp K 3 0 ⟨[u, pu, x5, x6, .I (i : Nat)], []⟩ = some (.brk ⟨[u, x5, x6], []⟩)
  | [], i, e => by
    have h0 := drop_nil_ge e
    have h1 : ¬ ((i : Int) < (l.length : Int)) := by omega
    refine l3_0 _ _ _ _ _ ?_
    simp only [hu.len, h1, decide_false, cond_false]
  | y :: r, i, e => by
    have k := Cur.of e
    have hi := k.lt
    have h1 : ((i : Int) < (l.length : Int)) := by omega
    have h2 : (0 : Int) ≤ (i : Int) := by omega
    have h12 := s12 hu hl k.elem (hr y (List.mem_of_getElem? k.elem))
    rw [par_eq hU y] at h12
    have hpl : pu.len = l.length := by rw [hp.len, List.length_map]
    have hg := hp.get i (parOf l y) (by simp [k.elem])
    have ih := l3_0' hu hl hU hr hp x5 x6 r (i + 1) k.next
    refine l3_0 _ _ _ _ _ ?_
    rw [w64s (by omega), ih]
    simp only [hu.len, hpl, h1, h2, decide_true, Bool.and_self, cond_true, Int.toNat_natCast, h12, Option.bind_some, hg, Bool.not_true, cond_false]
theorem p3 {u : U} {l : List Lt} (hu : LtsU u l) : Fi K 3 [u] = some (.B true) := by
  refine e3 _ ?_
  have h7 := s7 hu
  have h8 := s8 hu
  have h9 := s9 hu
  have h11 := s11 hu
  by_cases h : (lfault l).1 = 0
  · have g := good_of h
    have hl : l.length ≤ 1000000 := by have := g.len; omega
    have h0 := lfault_good h
    rw [h0] at h7 h8 h9 h11
    have hlen := showL_len (l := l) (l.length + 1) (-1) 0
    have h13 := s13 hu hl g.uni g.refs (l.length + 1) (-1) 0 (by omega) (by omega) (by have := laterN_le l (-1); omega)
    have h3 := l3_0' hu hl g.uni g.refs (pars_is false l) (.ofL (firsts (shown l)).isEmpty (firsts (shown l))) (.ofL (seconds (shown l)).isEmpty (seconds (shown l))) l 0 rfl
    rw [show (U.I ((0 : Nat) : Int)) = U.I 0 from rfl] at h3
    have i1 := s14 (firsts_is (firsts (shown l)).isEmpty (shown l)) (firsts_is (firsts (shown l)).isEmpty (shown l)) (by simp [fstI, shown]; omega)
    have i2 := s14 (seconds_is (seconds (shown l)).isEmpty (shown l)) (seconds_is (seconds (shown l)).isEmpty (shown l)) (by simp [sndI, shown]; omega)
    have e13 : showL l (l.length + 1) (-1) 0 = shown l := rfl
    rw [e13] at h13
    have hpl : (U.ofL false (l.map fun x => U.I (parOf l x))).len = l.length := by simp
    rw [h7, h8, h9, h11, s10]
    simp only [f2, decide_true, cond_true, Option.bind_some, get_ofL', nth_zero, nth_succ, toI_I, toB_B, Bool.not_true, Bool.not_false, Bool.and_self, Bool.or_self, cond_false, hu.len, hpl, h3, loK_some_brk, h13, resL, i1, i2]
  · rw [h7, h8, h9, h11, s10]
    simp only [f2, h, decide_true, decide_false, cond_true, cond_false, Option.bind_some, get_ofL', nth_zero, nth_succ, toI_I, toB_B, Bool.not_true, Bool.not_false, Bool.and_self, Bool.or_self, len_nil']
    rfl
theorem s16 {u : U} {l : List Bs} (hu : Is U.S u l) (s : Bs) (hl : l.length ≤ 1000000000000000) : Fi K 16 [u, .S s] = some (.B (l.any fun x => decide (x = s))) := by
  have key : ∀ r i, l.drop i = r → Lp K 16 0 ⟨[u, .S s, .I (i : Nat)], []⟩ = some (bif r.any fun x => decide (x = s) then .ret (.B true) else .brk ⟨[], []⟩) := by
    intro r
    induction r with
    | nil =>
      intro i e
      have h0 := drop_nil_ge e
      have h1 : ¬ ((i : Int) < (l.length : Int)) := by omega
      refine l16_0 _ _ _ ?_
      simp only [hu.len, h1, decide_false, cond_false]
      rfl
    | cons x r ih =>
      intro i e
      have k := Cur.of e
      have hi := k.lt
      have h1 : ((i : Int) < (l.length : Int)) := by omega
      have h2 : (0 : Int) ≤ (i : Int) := by omega
      refine l16_0 _ _ _ ?_
      rw [w64s (by omega), ih (i + 1) k.next]
      simp only [hu.len, h1, h2, decide_true, Bool.and_self, cond_true, Int.toNat_natCast, hu.get i x k.elem, List.any_cons]
      show (bif decide (x = s) then some (LO.ret (U.B true)) else _) = _
      cases decide (x = s) <;> rfl
  refine e16 _ _ ?_
  have h := key l 0 rfl
  rw [show (U.I ((0 : Nat) : Int)) = U.I 0 from rfl] at h
  rw [h]
  cases l.any fun x => decide (x = s) <;> rfl
end Go.Proofs.Ytbppeodcnkghpaa
end
