/- forest: the table of names, the parents that the program finds. -/
import Derived.Test.YtbppeodcnkghpaaCPc
set_option linter.unusedVariables false
set_option linter.unusedSimpArgs false
section
namespace Go.Proofs.Ytbppeodcnkghpaa
open Go.Ab
set_option linter.unusedVariables false
set_option linter.unusedSimpArgs false
set_option maxRecDepth 100000

theorem mapHas_set (x : Bs) (v : U) (b : Bs) : ∀ es, mapHas (mapSet es x v) b = (decide (x = b) || mapHas es b)
  | [] => rfl
  | e :: es => by
    by_cases h : (e.get 0).toS = x
    · have h1 : mapSet (e :: es) x v = .ofL false [.S x, v] :: es := by simp only [mapSet, h, decide_true, cond_true]
      rw [h1]
      show (decide (x = b) || mapHas es b) = (decide (x = b) || (decide ((e.get 0).toS = b) || mapHas es b))
      rw [h]
      cases decide (x = b) <;> simp
    · have h1 : mapSet (e :: es) x v = e :: mapSet es x v := by simp only [mapSet, h, decide_false, cond_false]
      rw [h1]
      show (decide ((e.get 0).toS = b) || mapHas (mapSet es x v) b) = (decide (x = b) || (decide ((e.get 0).toS = b) || mapHas es b))
      rw [mapHas_set x v b es]
      cases decide (x = b) <;> cases decide ((e.get 0).toS = b) <;> rfl
theorem mapGet_set (x : Bs) (v : U) (b : Bs) (z : U) : ∀ es, mapGet (mapSet es x v) b z = bif decide (x = b) then v else mapGet es b z
  | [] => rfl
  | e :: es => by
    by_cases h : (e.get 0).toS = x
    · have h1 : mapSet (e :: es) x v = .ofL false [.S x, v] :: es := by simp only [mapSet, h, decide_true, cond_true]
      rw [h1]
      show (bif decide (x = b) then v else mapGet es b z) = bif decide (x = b) then v else (bif decide ((e.get 0).toS = b) then e.get 1 else mapGet es b z)
      rw [h]
      cases decide (x = b) <;> rfl
    · have h1 : mapSet (e :: es) x v = e :: mapSet es x v := by simp only [mapSet, h, decide_false, cond_false]
      rw [h1]
      show (bif decide ((e.get 0).toS = b) then e.get 1 else mapGet (mapSet es x v) b z) = bif decide (x = b) then v else (bif decide ((e.get 0).toS = b) then e.get 1 else mapGet es b z)
      rw [mapGet_set x v b z es]
      by_cases h2 : x = b
      · have : ¬ (e.get 0).toS = b := by rw [← h2]; exact h
        simp [h2, this]
      · simp [h2]
/-- the table of names: names and places -/
def MapR (es : List U) (l : List Lt) : Prop := ∀ b, match l.findIdx? (same b) with
  | none => mapHas es b = false
  | some j => mapHas es b = true ∧ (mapGet es b (.I 0)).toI = (j : Int)
/-- no two letters have the same name -/
def Uni (l : List Lt) : Prop := ∀ i x, l[i]? = some x → (l.take i).any (same x.id) = false
theorem take_succ' {l : List Lt} {i : Nat} {x : Lt} (h : l[i]? = some x) : l.take (i + 1) = l.take i ++ [x] := by
  rw [List.take_add_one, h]; rfl
theorem MapR.set {es : List U} {l : List Lt} {i : Nat} {x : Lt} (hl : Uni l) (h : MapR es (l.take i)) (hx : l[i]? = some x) : MapR (mapSet es x.id (.I (i : Nat))) (l.take (i + 1)) := by
  intro b
  have hlt : i < l.length := (List.getElem?_eq_some_iff.1 hx).1
  have hb := h b
  rw [take_succ' hx, List.findIdx?_append]
  by_cases hs : x.id = b
  · have hn : (l.take i).findIdx? (same b) = none := by
      rw [List.findIdx?_eq_none_iff]
      intro y hy
      have := hl i x hx
      rw [List.any_eq_false] at this
      have := this y hy
      rw [hs] at this
      simpa using this
    have h1 : [x].findIdx? (same b) = some 0 := by simp [List.findIdx?_cons, same, hs]
    rw [hn, h1]
    simp only [Option.map_some, Option.none_or, mapHas_set, mapGet_set, hs, decide_true, Bool.true_or, cond_true, List.length_take, toI_I, true_and]
    rw [Nat.min_eq_left (by omega)]
    omega
  · have h1 : [x].findIdx? (same b) = none := by simp [List.findIdx?_cons, same, hs]
    rw [h1]
    simp only [Option.map_none, Option.or_none, mapHas_set, mapGet_set, hs, decide_false, Bool.false_or, cond_false]
    exact hb
theorem l17_0' {u : U} {l : List Lt} (hu : LtsU u l) (hl : l.length ≤ 1000000) (hU : Uni l) : ∀ r i, l.drop i = r → ∀ es, MapR es (l.take i) → ∃ es', MapR es' l ∧ Lp K 17 0 ⟨[u, u, .I (l.length : Nat), .I (i : Nat)], [es]⟩ = some (.brk ⟨[u], [es']⟩)
  | [], i, e, es, hm => by
    have h0 := drop_nil_ge e
    have h1 : ¬ ((i : Int) < (l.length : Int)) := by omega
    rw [List.take_of_length_le h0] at hm
    refine ⟨es, hm, l17_0 _ _ _ _ _ ?_⟩
    simp only [h1, decide_false, cond_false]
  | x :: r, i, e, es, hm => by
    have k := Cur.of e
    have hj := k.lt
    have h1 : ((i : Int) < (l.length : Int)) := by omega
    have h2 : (0 : Int) ≤ (i : Int) := by omega
    obtain ⟨es', m1, m2⟩ := l17_0' hu hl hU r (i + 1) k.next _ (hm.set hU k.elem)
    refine ⟨es', m1, l17_0 _ _ _ _ _ ?_⟩
    rw [w64s (by omega)]
    simp only [hu.len, h1, h2, decide_true, cond_true, Bool.and_self, Int.toNat_natCast, (hu.get i x k.elem).id, m2]
/-! the names that a letter refers to, from behind -/
def backI (u : U) : Nat → List U
  | 0 => []
  | n + 1 => .ofL false [.I (n : Nat), .S (u.get n).toS] :: backI u n
theorem z33 (u : U) (hl : u.len ≤ 1000000) : ∀ n : Nat, n ≤ u.len → Yp K 33 [u] 0 ⟨[u, .I ((n : Int) - 1)], []⟩ = some ⟨backI u n, some ⟨[], []⟩⟩
  | 0, _ => z33_0 _ _ _ (by rfl)
  | n + 1, h => by
    have ih := z33 u hl n (by omega)
    have h1 : (((n + 1 : Nat) : Int) - 1) = (n : Int) := by omega
    have h2 : (0 : Int) ≤ (n : Int) := by omega
    have h3 : (n : Int) < ((u.len : Nat) : Int) := by omega
    rw [h1]
    refine z33_0 _ _ _ ?_
    rw [w64 (by omega) (by omega), ih]
    simp only [h2, h3, decide_true, Bool.and_self, cond_true, Int.toNat_natCast]
    rfl
theorem y33' (u : U) (hl : u.len ≤ 1000000) : rgItems K (Yf K) 2 (.C 33 1 (U.nth [u])) = some (backI u u.len) := by
  have hy : Yf K 33 [u] = some (backI u u.len) := y33 u (by
    rw [w64 (by omega) (by omega), z33 u hl u.len (Nat.le_refl _)]
    show some (backI u u.len ++ []) = _
    rw [List.append_nil])
  have : rgItems K (Yf K) 2 (.C 33 1 (U.nth [u])) = Yf K 33 [u] := by kernel_rfl
  rw [this, hy]
end Go.Proofs.Ytbppeodcnkghpaa
end
section
namespace Go.Proofs.Ytbppeodcnkghpaa
open Go.Ab
set_option linter.unusedVariables false
set_option linter.unusedSimpArgs false
set_option maxRecDepth 100000

/-- the letter that `b` names, where `x` may answer it -/
def oneP (l : List Lt) (x : Lt) (b : Bs) : Option Nat := match l.findIdx? (same b) with
  | none => none
  | some j => match l[j]? with
    | none => none
    | some y => bif earl y x then some j else none
/-- from behind: the last of the first `n` names that will do -/
def parN (l : List Lt) (x : Lt) : Nat → Option Nat
  | 0 => none
  | n + 1 => match x.refs[n]? with
    | none => parN l x n
    | some b => match oneP l x b with
      | none => parN l x n
      | some j => some j
def pI : Option Nat → Int
  | none => -1
  | some j => j
def parOf (l : List Lt) (x : Lt) : Int := pI (parN l x x.refs.length)
theorem setUs_mid (a : List U) (b v : U) (c : List U) : setUs (a ++ b :: c) a.length v = a ++ v :: c := by
  induction a with
  | nil => rfl
  | cons y a ih => simp only [List.cons_append, List.length_cons, setUs, ih]
theorem l17_4' {u : U} {l : List Lt} (hu : LtsU u l) (hl : l.length ≤ 1000000) {es : List U} (hm : MapR es l) {x : Lt} {ru : U} (hx : Is U.S ru x.refs) {i : Nat} (z : Bool) (ps : List U) (hi : i < ps.length) (len : Int) : ∀ n, n ≤ x.refs.length →
    Lp K 17 4 ⟨[.I 33, u, .B z, .I (i : Nat), .S x.id, ru, .I x.time, u, .I len, .I (i : Nat)], [backI ru n, es, ps]⟩ = some (.brk ⟨[.B (parN l x n).isSome, u, .B z, u, .I len, .I (i : Nat)], [es, match parN l x n with | none => ps | some j => setUs ps i (.I (j : Nat))]⟩)
  | 0, _ => l17_4n _ _ _ _ _ _ _ _ _ _ _ rfl
  | n + 1, hn => by
    have ih := l17_4' hu hl hm hx (i := i) z ps hi len n (by omega)
    obtain ⟨b, hb⟩ : ∃ b, x.refs[n]? = some b := ⟨_, List.getElem?_eq_getElem (by omega)⟩
    have hbu := hx.get n b hb
    have hbm := hm b
    have h1 : ((i : Int) < ((ps.length : Nat) : Int)) := by omega
    have h2 : (0 : Int) ≤ (i : Int) := by omega
    have hself : LtU (.ofL false [.S x.id, ru, .I x.time]) x := ⟨rfl, hx, rfl⟩
    refine l17_4c _ _ _ _ _ _ _ _ _ _ _ _ _ ?_
    have g1 : ((U.ofL false [.I (n : Nat), .S (ru.get n).toS]).get 1).toS = b := by rw [hbu]; rfl
    rw [g1]
    have e : parN l x (n + 1) = match oneP l x b with | none => parN l x n | some j => some j := by
      simp only [parN, hb]
    cases hf : l.findIdx? (same b) with
    | none =>
      rw [hf] at hbm
      have e2 : parN l x (n + 1) = parN l x n := by rw [e]; simp only [oneP, hf]
      rw [e2]
      have hbm : mapHas es b = false := hbm
      simp only [hbm, Bool.not_false, Bool.or_true, cond_true, cond_false, Option.bind_some, Bool.false_and]
      exact ih
    | some j =>
      rw [hf] at hbm
      obtain ⟨m1, m2⟩ := hbm
      have hj : j < l.length := (List.findIdx?_eq_some_iff_getElem.1 hf).1
      have hy : l[j]? = some l[j] := List.getElem?_eq_getElem hj
      have h3 : ((j : Int) < (l.length : Int)) := by omega
      have h4 : (0 : Int) ≤ (j : Int) := by omega
      simp only [m1, m2, hu.len, h3, h4, decide_true, Bool.and_self, Bool.true_or, cond_true, Int.toNat_natCast, s20 (hu.get j _ hy) hself, Option.bind_some, Bool.true_and]
      have hcm : decide ((U.I (cmpL l[j] x)).toI < 0) = earl l[j] x := cmpL_lt _ _
      rw [hcm]
      cases he : earl l[j] x with
      | true =>
        have e2 : parN l x (n + 1) = some j := by rw [e]; simp only [oneP, hf, hy, he, cond_true]
        rw [e2]
        simp only [h1, h2, decide_true, Bool.and_self, cond_true, Nat.zero_add]
        rfl
      | false =>
        have e2 : parN l x (n + 1) = parN l x n := by rw [e]; simp only [oneP, hf, hy, he, cond_false]
        rw [e2]
        simp only [cond_false]
        exact ih
theorem l17_2' {u : U} {l : List Lt} (hu : LtsU u l) (hl : l.length ≤ 1000000) (hr : ∀ x ∈ l, x.refs.length ≤ 1000000) {es : List U} (hm : MapR es l) (z : Bool) : ∀ r i, l.drop i = r → ∀ a : List U, a.length = i →
    Lp K 17 2 ⟨[u, .B z, u, .I (l.length : Nat), .I (i : Nat)], [es, a ++ List.replicate r.length (.I 0)]⟩ = some (.brk ⟨[.B z], [a ++ r.map fun x => .I (parOf l x)]⟩)
  | [], i, e, a, ha => by
    have h0 := drop_nil_ge e
    have h1 : ¬ ((i : Int) < (l.length : Int)) := by omega
    refine l17_2 _ _ _ _ _ _ _ ?_
    simp only [h1, decide_false, cond_false]
    rfl
  | x :: r, i, e, a, ha => by
    have k := Cur.of e
    have hj := k.lt
    have h1 : ((i : Int) < (l.length : Int)) := by omega
    have h2 : (0 : Int) ≤ (i : Int) := by omega
    have hx := hu.get i x k.elem
    have hxr := hr x (List.mem_of_getElem? k.elem)
    have hlen : (a ++ List.replicate (x :: r).length (U.I 0)).length = a.length + (r.length + 1) := by simp
    have h3 : ((i : Int) < (((a ++ List.replicate (x :: r).length (U.I 0)).length : Nat) : Int)) := by rw [hlen]; omega
    have hs : setUs (a ++ List.replicate (x :: r).length (U.I 0)) i (.I (-1)) = a ++ U.I (-1) :: List.replicate r.length (U.I 0) := by
      rw [← ha]; exact setUs_mid _ _ _ _
    have hs2 : ∀ v, setUs (a ++ U.I (-1) :: List.replicate r.length (U.I 0)) i v = a ++ v :: List.replicate r.length (U.I 0) := by
      intro v; rw [← ha]; exact setUs_mid _ _ _ _
    have l4 := l17_4' hu hl hm hx.refs (i := i) z (a ++ U.I (-1) :: List.replicate r.length (U.I 0)) (by simp; omega) (l.length : Nat) x.refs.length (Nat.le_refl _)
    have ih := l17_2' hu hl hr hm z r (i + 1) k.next (a ++ [.I (parOf l x)]) (by simp [ha])
    have e3 : (match parN l x x.refs.length with | none => a ++ U.I (-1) :: List.replicate r.length (U.I 0) | some j => setUs (a ++ U.I (-1) :: List.replicate r.length (U.I 0)) i (.I (j : Nat))) = a ++ [U.I (parOf l x)] ++ List.replicate r.length (U.I 0) := by
      unfold parOf
      cases parN l x x.refs.length with
      | none => simp [pI]
      | some j => simp only [hs2, pI]; simp
    rw [e3] at l4
    have hy := y33' ((u.get i).get 1) (by rw [hx.refs.len]; exact hxr)
    rw [hx.refs.len] at hy
    have ht : a ++ (x :: r).map (fun x => U.I (parOf l x)) = a ++ [.I (parOf l x)] ++ r.map (fun x => U.I (parOf l x)) := by simp
    rw [ht]
    refine l17_2 _ _ _ _ _ _ _ ?_
    rw [e25 _ rfl]
    simp only [hu.len, h1, h2, h3, decide_true, Bool.and_self, cond_true, Int.toNat_natCast, Option.bind_some, hy, Nat.zero_add, hs, hx.id, hx.time]
    rw [show (((U.C 33 1 (U.nth [(u.get i).get 1])).fid : Nat) : Int) = 33 from rfl, l4]
    simp only [Option.bind_some, nth_zero, nth_succ, List.tail_cons, toI_I, toB_B]
    rw [w64s (by omega)]
    cases (parN l x x.refs.length).isSome <;> exact ih
theorem s17 {u : U} {l : List Lt} (hu : LtsU u l) (hl : l.length ≤ 1000000) (hr : ∀ x ∈ l, x.refs.length ≤ 1000000) (hU : Uni l) : Fi K 17 [u] = some (.ofL false (l.map fun x => .I (parOf l x))) := by
  obtain ⟨es, m1, m2⟩ := l17_0' hu hl hU l 0 rfl [] (by intro b; rfl)
  have h2 := l17_2' hu hl hr m1 false l 0 rfl [] rfl
  rw [show (U.I ((0 : Nat) : Int)) = U.I 0 from rfl] at m2 h2
  have h3 : (((l.length : Nat) : Int) ≤ 17592186044416) := by omega
  have h4 : (0 : Int) ≤ ((l.length : Nat) : Int) := by omega
  refine e17 _ ?_
  simp only [hu.len, m2, loK_some_brk, nth_zero, h3, h4, decide_true, Bool.and_self, Int.le_refl, cond_true]
  rw [List.nil_append] at h2
  show loK (Lp K 17 2 ⟨[u, .B false, u, .I ((l.length : Nat) : Int), .I 0], [es, List.replicate l.length (.I 0)]⟩) _ _ = _
  rw [h2]
  rfl
end Go.Proofs.Ytbppeodcnkghpaa
end
section
namespace Go.Proofs.Ytbppeodcnkghpaa
open Go.Ab
set_option linter.unusedVariables false
set_option linter.unusedSimpArgs false
set_option maxRecDepth 100000

theorem faultFrom_get {l : List Lt} : ∀ r i, l.drop i = r → (faultFrom l i r).1 = 0 → ∀ j x, i ≤ j → l[j]? = some x → lcode l j x = 0
  | [], i, e, _, j, x, hij, hx => by
    have := drop_nil_ge e
    have := (List.getElem?_eq_some_iff.1 hx).1
    omega
  | y :: r, i, e, h, j, x, hij, hx => by
    have k := Cur.of e
    by_cases hy : lcode l i y = 0
    · have e1 : faultFrom l i (y :: r) = faultFrom l (i + 1) r := by simp only [faultFrom, hy, decide_true, cond_true]
      rw [e1] at h
      by_cases hj : i = j
      · subst hj
        have := k.elem
        rw [this] at hx
        cases hx
        exact hy
      · exact faultFrom_get r (i + 1) k.next h j x (by omega) hx
    · have e1 : faultFrom l i (y :: r) = (lcode l i y, (i : Int)) := by simp only [faultFrom, hy, decide_false, cond_false]
      rw [e1] at h
      exact (hy h).elim
/-- letters without a fault -/
structure Good (l : List Lt) : Prop where
  len : l.length ≤ 300
  code : ∀ i x, l[i]? = some x → lcode l i x = 0
theorem good_of {l : List Lt} (h : (lfault l).1 = 0) : Good l := by
  unfold lfault at h
  by_cases h1 : 300 < l.length
  · rw [decide_eq_true h1] at h; cases h
  · rw [decide_eq_false h1] at h
    exact ⟨by omega, fun i x hx => faultFrom_get l 0 rfl h i x (Nat.zero_le _) hx⟩
theorem lfault_good {l : List Lt} (h : (lfault l).1 = 0) : lfault l = (0, 0) := by
  have g := good_of h
  have e : lfault l = faultFrom l 0 l := by unfold lfault; rw [decide_eq_false (by have := g.len; omega)]; rfl
  rw [e] at h ⊢
  exact faultFrom_ok l l 0 h
theorem lcode_zero {l : List Lt} {i : Nat} {x : Lt} (h : lcode l i x = 0) : x.id ≠ [] ∧ x.id.length ≤ 200 ∧ x.refs.length ≤ 30 ∧ -68719476736 ≤ x.time ∧ x.time ≤ 68719476736 ∧ (l.take i).any (same x.id) = false := by
  unfold lcode at h
  by_cases h1 : x.id = []
  · simp [h1] at h
  by_cases h2 : 200 < x.id.length
  · simp [h2] at h
  by_cases h3 : x.time < -68719476736
  · simp [h1, h2, h3] at h
  by_cases h4 : 68719476736 < x.time
  · simp [h1, h2, h4] at h
  by_cases h5 : 30 < x.refs.length
  · simp [h1, h2, h3, h4, h5] at h
  cases h6 : (l.take i).any (same x.id) with
  | true => rw [h6] at h; simp [h1, h2, h3, h4, h5] at h
  | false => exact ⟨h1, by omega, by omega, by omega, by omega, rfl⟩
theorem Good.uni {l : List Lt} (h : Good l) : Uni l := fun i x hx => (lcode_zero (h.code i x hx)).2.2.2.2.2
theorem Good.refs {l : List Lt} (h : Good l) : ∀ x ∈ l, x.refs.length ≤ 1000000 := fun x hx => by
  obtain ⟨i, hi⟩ := List.getElem?_of_mem hx
  have := (lcode_zero (h.code i x hi)).2.2.1
  omega
theorem s7 {u : U} {l : List Lt} (hu : LtsU u l) : Fi K 7 [u] = some (bif decide ((lfault l).1 = 0) then .ofL false [.ofL false (l.map fun x => .I (parOf l x)), f2 0 0] else .ofL false [.nil, f2 (lfault l).1 (lfault l).2]) := by
  refine e7 _ ?_
  rw [s11 hu]
  simp only [Option.bind_some]
  by_cases h : (lfault l).1 = 0
  · have g := good_of h
    have h17 := s17 hu (by have := g.len; omega) g.refs g.uni
    have h0 := lfault_good h
    rw [h0, h17]
    simp only [f2, get_ofL', nth_zero, nth_succ, toI_I, decide_true, Bool.and_self, Bool.and_true, Bool.not_true, cond_false, cond_true, Option.bind_some, isNil_ofL', toL_ofL', Bool.false_and]
  · simp only [f2, get_ofL', nth_zero, nth_succ, toI_I, h, decide_false, Bool.false_and, Bool.not_false, cond_true, cond_false]
end Go.Proofs.Ytbppeodcnkghpaa
end
