/- The laws of threads: answers follow, later letters. -/
import Derived.Test.YtbppeodcnkghpaaCPo
set_option linter.unusedVariables false
set_option linter.unusedSimpArgs false
section
namespace Go.Proofs.Ytbppeodcnkghpaa
open Go.Ab
set_option linter.unusedVariables false
set_option linter.unusedSimpArgs false
set_option maxRecDepth 100000

/-- each letter stands behind the one that it answers -/
def FolL (l : List Lt) (p d : Int) : List (Nat × Int) → List (Nat × Int) → Prop
  | _, [] => True
  | seen, q :: s => ((parI l q.1 = p ∧ q.2 = d) ∨ ∃ (k : Nat) (e : Int), parI l q.1 = (k : Int) ∧ (k, e) ∈ seen ∧ q.2 = e + 1) ∧ FolL l p d (seen ++ [q]) s
theorem fol_append {l : List Lt} {p d : Int} : ∀ {s1 s2 seen : List (Nat × Int)}, FolL l p d seen s1 → FolL l p d (seen ++ s1) s2 → FolL l p d seen (s1 ++ s2)
  | [], s2, seen, _, h => by simpa using h
  | q :: s1, s2, seen, h1, h2 => ⟨h1.1, fol_append h1.2 (by simpa using h2)⟩
theorem fol_into {l : List Lt} {p d : Int} {i : Nat} {e : Int} : ∀ {s seen : List (Nat × Int)}, FolL l (i : Nat) (e + 1) seen s → (i, e) ∈ seen → FolL l p d seen s
  | [], _, _, _ => trivial
  | q :: s, seen, h, hm => by
    refine ⟨.inr ?_, fol_into h.2 (List.mem_append.2 (.inl hm))⟩
    rcases h.1 with ⟨h1, h2⟩ | h1
    · exact ⟨i, e, h1, hm, h2⟩
    · exact h1
theorem showL_fol {l : List Lt} : ∀ f (p d : Int) seen, FolL l p d seen (showL l f p d)
  | 0, _, _, _ => trivial
  | f + 1, p, d, seen => by
    have key : ∀ ks : List Nat, (∀ i ∈ ks, parI l i = p) → ∀ seen, FolL l p d seen (ks.flatMap fun i => (i, d) :: showL l f (i : Nat) (d + 1)) := by
      intro ks
      induction ks with
      | nil => intro _ _; trivial
      | cons i ks ih =>
        intro h seen
        rw [List.flatMap_cons]
        refine fol_append ⟨.inl ⟨h i (List.mem_cons_self ..), rfl⟩, fol_into (showL_fol f (i : Nat) (d + 1) _) (by simp)⟩ (ih (fun j hj => h j (List.mem_cons_of_mem _ hj)) _)
    exact key _ (fun i hi => (mem_kids.1 hi).2) seen
theorem fol_get {l : List Lt} {p d : Int} : ∀ {s seen : List (Nat × Int)}, FolL l p d seen s → ∀ {i : Nat} {q : Nat × Int}, s[i]? = some q → (parI l q.1 = p ∧ q.2 = d) ∨ ∃ (k : Nat) (e : Int), parI l q.1 = (k : Int) ∧ (k, e) ∈ seen ++ s.take i ∧ q.2 = e + 1
  | [], _, _, i, q, hi => by simp at hi
  | x :: s, seen, h, 0, q, hi => by
    simp at hi; subst hi
    rcases h.1 with h | ⟨k, e, h1, h2, h3⟩
    · exact .inl h
    · exact .inr ⟨k, e, h1, by simpa using h2, h3⟩
  | x :: s, seen, h, i + 1, q, hi => by
    simp at hi
    rcases fol_get h.2 hi with h | ⟨k, e, h1, h2, h3⟩
    · exact .inl h
    · exact .inr ⟨k, e, h1, by simpa using h2, h3⟩
theorem shown_fol {l : List Lt} {i : Nat} {q : Nat × Int} (h : (shown l)[i]? = some q) : (parI l q.1 = -1 ∧ q.2 = 0) ∨ ∃ (k m : Nat) (e : Int), parI l q.1 = (k : Int) ∧ m < i ∧ (shown l)[m]? = some (k, e) ∧ q.2 = e + 1 := by
  rcases fol_get (showL_fol (l.length + 1) (-1) 0 []) h with h | ⟨k, e, h1, h2, h3⟩
  · exact .inl h
  · rw [List.nil_append] at h2
    obtain ⟨m, hm⟩ := List.getElem?_of_mem h2
    rw [List.getElem?_take] at hm
    split at hm
    · exact .inr ⟨k, m, e, h1, by assumption, hm, h3⟩
    · cases hm
theorem nth_setUs : ∀ (xs : List U) (j k : Nat) (v : U), j < xs.length → U.nth (setUs xs j v) k = bif decide (k = j) then v else U.nth xs k
  | [], j, k, v, h => by simp at h
  | x :: xs, 0, 0, v, _ => rfl
  | x :: xs, 0, k + 1, v, _ => by
    have : ¬ (k + 1 = 0) := by omega
    simp only [this, decide_false, cond_false]; rfl
  | x :: xs, j + 1, 0, v, _ => by
    have : ¬ (0 = j + 1) := by omega
    simp only [this, decide_false, cond_false]; rfl
  | x :: xs, j + 1, k + 1, v, h => by
    have ih := nth_setUs xs j k v (by simpa using h)
    have e : decide (k + 1 = j + 1) = decide (k = j) := by simp
    rw [e]; exact ih
theorem len_setUs : ∀ (xs : List U) (j : Nat) (v : U), (setUs xs j v).length = xs.length
  | [], _, _ => rfl
  | x :: xs, 0, v => rfl
  | x :: xs, j + 1, v => by simp [setUs, len_setUs xs j v]
/-- where the letters have been met -/
structure At (l : List Lt) (i : Nat) (x : List U) : Prop where
  len : x.length = l.length
  met : ∀ m j e, m < i → (shown l)[m]? = some (j, e) → U.nth x j = .I (m : Nat)
  new : ∀ m j e, i ≤ m → (shown l)[m]? = some (j, e) → U.nth x j = .I (-1)
theorem shown_inj {l : List Lt} {m m' j : Nat} {e e' : Int} (h : (shown l)[m]? = some (j, e)) (h' : (shown l)[m']? = some (j, e')) : m = m' := by
  have nd := showL_nodup (l := l) (l.length + 1) (-1) 0
  have h1 : ((shown l).map (·.1))[m]? = some j := by simp [h]
  have h2 : ((shown l).map (·.1))[m']? = some j := by simp [h']
  have hm := (List.getElem?_eq_some_iff.1 h1).1
  exact (List.getElem?_inj hm nd).1 (h1.trans h2.symm)
theorem At.next {l : List Lt} {i : Nat} {x : List U} (h : At l i x) {j : Nat} {e : Int} (hj : (shown l)[i]? = some (j, e)) : At l (i + 1) (setUs x j (.I (i : Nat))) := by
  have hl : j < x.length := by rw [h.len]; exact shown_lt (List.mem_of_getElem? hj)
  refine ⟨by rw [len_setUs, h.len], fun m j' e' hm hs => ?_, fun m j' e' hm hs => ?_⟩
  · rw [nth_setUs _ _ _ _ hl]
    by_cases hji : j' = j
    · subst hji
      have := shown_inj hs hj
      subst this
      simp
    · rw [decide_eq_false hji]
      have : m ≠ i := fun e => by subst e; rw [hj] at hs; cases hs; exact hji rfl
      exact h.met m j' e' (by omega) hs
  · rw [nth_setUs _ _ _ _ hl]
    by_cases hji : j' = j
    · subst hji
      have := shown_inj hs hj
      omega
    · rw [decide_eq_false hji]
      exact h.new m j' e' (by omega) hs
theorem l5_0' (u x3 x5 x6 : U) {n : Nat} (hu : u.len = n) (hn : n ≤ 1000000) (z : Bool) : ∀ k i, i + k = n → Lp K 5 0 ⟨[u, x3, x5, x6, .B z, .I (i : Nat)], [List.replicate i (.I (-1)) ++ List.replicate k (.I 0)]⟩ = some (.brk ⟨[u, x3, x5, x6, .B z], [List.replicate n (.I (-1))]⟩)
  | 0, i, e => by
    have h1 : ¬ ((i : Int) < (n : Int)) := by omega
    have : i = n := by omega
    subst this
    refine l5_0 _ _ _ _ _ _ _ ?_
    simp only [hu, h1, decide_false, cond_false, List.replicate_zero, List.append_nil]
  | k + 1, i, e => by
    have h1 : ((i : Int) < (n : Int)) := by omega
    have h2 : (0 : Int) ≤ (i : Int) := by omega
    have h3 : ((i : Int) < (((List.replicate i (U.I (-1)) ++ List.replicate (k + 1) (U.I 0)).length : Nat) : Int)) := by rw [List.length_append, List.length_replicate, List.length_replicate]; omega
    have ih := l5_0' u x3 x5 x6 hu hn z k (i + 1) (by omega)
    have hs : setUs (List.replicate i (U.I (-1)) ++ List.replicate (k + 1) (U.I 0)) i (.I (-1)) = List.replicate (i + 1) (U.I (-1)) ++ List.replicate k (U.I 0) := by
      have := setUs_mid (List.replicate i (U.I (-1))) (U.I 0) (U.I (-1)) (List.replicate k (U.I 0))
      rw [List.length_replicate] at this
      rw [List.replicate_succ, this, List.replicate_succ']
      simp
    refine l5_0 _ _ _ _ _ _ _ ?_
    rw [w64s (by omega)]
    simp only [hu, h1, h2, h3, decide_true, Bool.and_self, cond_true, Int.toNat_natCast, Nat.zero_add, hs, ih]
theorem l5_2' {u x3 x5 x6 : U} {l : List Lt} (hu : u.len = l.length) (hn : l.length ≤ 1000000) (hp : Is U.I x3 (l.map (parOf l))) (ho : Is U.I x5 (fstI (shown l))) (hd : Is U.I x6 (sndI (shown l))) (hb : ∀ q ∈ shown l, 0 ≤ q.2 ∧ q.2 ≤ 1000000) (z : Bool) :
    ∀ r i, (shown l).drop i = r → ∀ x, At l i x → Lp K 5 2 ⟨[u, x3, x5, x6, .B z, .I (i : Nat)], [x]⟩ = some (.brk ⟨[], []⟩)
  | [], i, e, x, hx => by
    have h0 := drop_nil_ge e
    have ol : x5.len = (shown l).length := by rw [ho.len, fstI, List.length_map]
    have h1 : ¬ ((i : Int) < ((shown l).length : Int)) := by omega
    refine l5_2 _ _ _ _ _ _ _ ?_
    simp only [ol, h1, decide_false, cond_false]
  | (j, e) :: r, i, er, x, hx => by
    have k := Cur.of er
    have hi := k.lt
    have hlen := shown_len l
    have ol : x5.len = l.length := by rw [ho.len, fstI, List.length_map, hlen]
    have dl : x6.len = l.length := by rw [hd.len, sndI, List.length_map, hlen]
    have pl : x3.len = l.length := by rw [hp.len, List.length_map]
    have h1 : ((i : Int) < (l.length : Int)) := by omega
    have h2 : ((0 : Int) ≤ (i : Int)) := by omega
    have hj := shown_lt (List.mem_of_getElem? k.elem)
    have oj := ho.get i (j : Int) (by simp [fstI, k.elem])
    have dj := hd.get i e (by simp [sndI, k.elem])
    have pj : x3.get j = .I (parI l j) := by
      have hy : l[j]? = some l[j] := List.getElem?_eq_getElem hj
      have := hp.get j (parOf l l[j]) (by rw [List.getElem?_map, hy]; rfl)
      rw [this]; unfold parI; rw [hy]
    have ih := l5_2' hu hn hp ho hd hb z r (i + 1) k.next _ (hx.next k.elem)
    have h3 : (0 : Int) ≤ (j : Int) := by omega
    have h4 : (j : Int) ≤ (l.length : Int) - 1 := by omega
    have h5 : (j : Int) < (l.length : Int) := by omega
    have hnew := hx.new i j e (Nat.le_refl _) k.elem
    have h6 : ¬ ((0 : Int) ≤ -1) := by omega
    have hxl := hx.len
    refine l5_2 _ _ _ _ _ _ _ ?_
    rw [w64s (by omega), hu, w64 (n := (l.length : Int) - 1) (by omega) (by omega)]
    simp only [ol, dl, pl, hxl, h1, h2, decide_true, Bool.and_self, cond_true, Int.toNat_natCast, oj, pj, dj, toI_I, s15, h3, h4, h5, Option.bind_some, toB_B, Bool.true_or, Bool.not_true, Bool.false_or, Nat.zero_add, hnew, h6, decide_false, cond_false, ih]
    rcases shown_fol k.elem with ⟨f1, f2⟩ | ⟨kk, m, e', f1, f2, f3, f4⟩
    · have f1 : parI l j = -1 := f1
      have f2 : e = 0 := f2
      subst f2
      have g1 : ((-1 : Int) < 0) := by omega
      simp [f1]
    · have f1 : parI l j = (kk : Int) := f1
      have f4 : e = e' + 1 := f4
      have hk := shown_lt (List.mem_of_getElem? f3)
      have hm := hx.met m kk e' f2 f3
      have dm := hd.get m e' (by simp [sndI, f3])
      have g1 : ¬ ((kk : Int) < 0) := by omega
      have g2 : (0 : Int) ≤ (kk : Int) := by omega
      have g3 : ((kk : Int) < (l.length : Int)) := by omega
      have g4 : ¬ ((l.length : Int) ≤ (kk : Int)) := by omega
      have g5 : ¬ ((m : Int) < 0) := by omega
      have g6 : (0 : Int) ≤ (m : Int) := by omega
      have g7 : ((m : Int) < (l.length : Int)) := by omega
      have hb' := hb _ (List.mem_of_getElem? f3)
      have g8 : IntKind.wrap .i64 (e' + 1) = e' + 1 := w64 (by have := hb'.1; omega) (by have := hb'.2; simp only at this; omega)
      simp [f1, g1, g2, g3, g4, hm, g5, g6, g7, dm, g8, f4]
end Go.Proofs.Ytbppeodcnkghpaa
end
section
namespace Go.Proofs.Ytbppeodcnkghpaa
open Go.Ab
set_option linter.unusedVariables false
set_option linter.unusedSimpArgs false
set_option maxRecDepth 100000

theorem showL_depth {l : List Lt} : ∀ f (p d : Int) (q : Nat × Int), q ∈ showL l f p d → d ≤ q.2 ∧ q.2 < d + f
  | 0, _, _, _, h => by cases h
  | f + 1, p, d, q, h => by
    simp only [showL, List.mem_flatMap, List.mem_cons] at h
    obtain ⟨i, hi, h | h⟩ := h
    · subst h; simp only; omega
    · have := showL_depth f _ _ q h
      omega
theorem p5 {u : U} {l : List Lt} (hu : LtsU u l) : Fi K 5 [u] = some (.B true) := by
  have h7 := s7 hu
  have h8 := s8 hu
  refine e5 _ ?_
  rw [s10, h7, h8]
  by_cases h : (lfault l).1 = 0
  · have g := good_of h
    have hn : l.length ≤ 1000000 := by have := g.len; omega
    have h0 := lfault_good h
    have hlen := shown_len l
    have lp : (U.ofL false (l.map fun x => U.I (parOf l x))).len = l.length := by simp
    have lo : (U.ofL (firsts (shown l)).isEmpty (firsts (shown l))).len = l.length := by simp [firsts, hlen]
    have ld : (U.ofL (seconds (shown l)).isEmpty (seconds (shown l))).len = l.length := by simp [seconds, hlen]
    have b1 : (0 : Int) ≤ ((l.length : Nat) : Int) := by omega
    have b2 : ((l.length : Nat) : Int) ≤ 17592186044416 := by omega
    have a0 := l5_0' u (.ofL false (l.map fun x => U.I (parOf l x))) (.ofL (firsts (shown l)).isEmpty (firsts (shown l))) (.ofL (seconds (shown l)).isEmpty (seconds (shown l))) hu.len hn false l.length 0 (by omega)
    have a2 := l5_2' (x3 := .ofL false (l.map fun x => U.I (parOf l x))) hu.len hn (pars_is false l) (firsts_is (firsts (shown l)).isEmpty (shown l)) (seconds_is (seconds (shown l)).isEmpty (shown l)) (fun q hq => by
      have := showL_depth _ _ _ _ hq
      omega) false _ 0 rfl (List.replicate l.length (.I (-1))) ⟨by simp, fun m j e hm => by omega, fun m j e _ hs => nth_at (by
        have := shown_lt (List.mem_of_getElem? hs)
        simp [this])⟩
    rw [show (U.I ((0 : Nat) : Int)) = U.I 0 from rfl] at a0 a2
    rw [List.replicate_zero, List.nil_append] at a0
    simp only [Option.bind_some, toB_B, Bool.not_true, cond_false, h, decide_true, cond_true, f2, get_ofL', nth_zero, nth_succ, toI_I, Bool.or_self, hu.len, lp, lo, ld, b1, b2, Int.le_refl, Bool.and_self, a0, loK_some_brk, nthL_zero, toB_B, a2]
  · simp only [Option.bind_some, toB_B, Bool.not_true, cond_false, h, decide_false, decide_true, cond_true, f2, get_ofL', nth_zero, nth_succ, toI_I, Bool.or_self, Bool.not_false, Bool.and_self]
/-! a later letter -/
theorem find_app {l : List Lt} {z : Lt} {b : Bs} (hb : z.id ≠ b) : (l ++ [z]).findIdx? (same b) = l.findIdx? (same b) := by
  rw [List.findIdx?_append]
  have : [z].findIdx? (same b) = none := by simp [List.findIdx?_cons, same, hb]
  rw [this]; simp
theorem oneP_app {l : List Lt} {z x : Lt} {b : Bs} (hb : z.id ≠ b) : oneP (l ++ [z]) x b = oneP l x b := by
  unfold oneP
  rw [find_app hb]
  cases hf : l.findIdx? (same b) with
  | none => rfl
  | some j =>
    have hj : j < l.length := (List.findIdx?_eq_some_iff_getElem.1 hf).1
    simp only [List.getElem?_append_left hj]
theorem parN_app {l : List Lt} {z x : Lt} (hr : ∀ b ∈ x.refs, z.id ≠ b) : ∀ n, parN (l ++ [z]) x n = parN l x n
  | 0 => rfl
  | n + 1 => by
    have ih := parN_app (l := l) hr n
    simp only [parN]
    cases hb : x.refs[n]? with
    | none => exact ih
    | some b => simp only [oneP_app (l := l) (x := x) (hr b (List.mem_of_getElem? hb)), ih]
theorem parOf_app {l : List Lt} {z x : Lt} (hr : ∀ b ∈ x.refs, z.id ≠ b) : parOf (l ++ [z]) x = parOf l x := by
  unfold parOf; rw [parN_app hr]
abbrev lastN : Bs := [108, 97, 115, 116, 32, 108, 101, 116, 116, 101, 114]
def badL (x : Lt) : Bool := decide (x.time = 68719476736) || x.refs.any fun b => decide (b = lastN)
theorem l6_0' {u : U} {l : List Lt} (hu : LtsU u l) (hl : l.length ≤ 2932031007402) (hr : ∀ x ∈ l, x.refs.length ≤ 1000000000000000) (p q : U) (a b c d : Int) : ∀ r i, l.drop i = r → Lp K 6 0 ⟨[u, p, .I a, .I b, q, .I c, .I d, .I (i : Nat)], []⟩ = some (bif r.any badL then .ret (.B true) else .brk ⟨[u, p, .I a, .I b, q, .I c, .I d], []⟩)
  | [], i, e => by
    have h0 := drop_nil_ge e
    have h1 : ¬ ((i : Int) < (l.length : Int)) := by omega
    refine l6_0 _ _ _ _ _ _ _ _ ?_
    simp only [hu.len, h1, decide_false, cond_false]
    rfl
  | x :: r, i, e => by
    have k := Cur.of e
    have hi := k.lt
    have h1 : ((i : Int) < (l.length : Int)) := by omega
    have h2 : (0 : Int) ≤ (i : Int) := by omega
    have hx := hu.get i x k.elem
    have ih := l6_0' hu hl hr p q a b c d r (i + 1) k.next
    have h16 := s16 hx.refs lastN (hr x (List.mem_of_getElem? k.elem))
    refine l6_0 _ _ _ _ _ _ _ _ ?_
    rw [w64s (by omega), ih]
    simp only [hu.len, h1, h2, decide_true, Bool.and_self, Bool.true_or, cond_true, Int.toNat_natCast, hx.time, h16, List.any_cons, badL]
    cases decide (x.time = 68719476736) with
    | true => rfl
    | false =>
      cases (x.refs.any fun b => decide (b = lastN)) <;> rfl
theorem p6 {u a1 : U} {l : List Lt} {rs : List Bs} (hu : LtsU u l) (ha : Is U.S a1 rs) (hl : l.length + 1 ≤ 2932031007402) (hr : ∀ x ∈ l, x.refs.length ≤ 1000000000000000) : Fi K 6 [u, a1] = some (.B true) := by
  have hul : u.toL.length = l.length := by rw [toL_len, hu.len]
  have c1 : u.toL.length ≤ 2932031007402 := by omega
  have c2 : u.toL.length + 1 ≤ 2932031007402 := by omega
  have hm : LtsU (U.ofL (u.toL ++ [U.ofL false [U.S lastN, a1, U.I 68719476736]]).isEmpty (u.toL ++ [U.ofL false [U.S lastN, a1, U.I 68719476736]])) (l ++ [⟨lastN, rs, 68719476736⟩]) := by
    refine ⟨by simp [hul], fun i x hx => ?_⟩
    by_cases hi : i < l.length
    · rw [List.getElem?_append_left hi] at hx
      have e : (U.ofL (u.toL ++ [U.ofL false [U.S lastN, a1, U.I 68719476736]]).isEmpty (u.toL ++ [U.ofL false [U.S lastN, a1, U.I 68719476736]])).get i = u.get i := by
        show U.nth _ i = _
        exact nth_at (by rw [List.getElem?_append_left (by omega)]; exact hu.toL hi)
      rw [e]; exact hu.get i x hx
    · have hi2 : i = l.length := by
        have := (List.getElem?_eq_some_iff.1 hx).1
        simp at this; omega
      subst hi2
      rw [List.getElem?_append_right (Nat.le_refl _), Nat.sub_self] at hx
      cases hx
      have e : (U.ofL (u.toL ++ [U.ofL false [U.S lastN, a1, U.I 68719476736]]).isEmpty (u.toL ++ [U.ofL false [U.S lastN, a1, U.I 68719476736]])).get l.length = U.ofL false [U.S lastN, a1, U.I 68719476736] := by
        show U.nth _ l.length = _
        exact nth_at (by rw [List.getElem?_append_right (by omega), hul, Nat.sub_self]; rfl)
      rw [e]; exact ⟨rfl, ha, rfl⟩
  have h7 := s7 hu
  have h7' := s7 hm
  refine e6 _ _ ?_
  rw [s10, h7]
  simp only [Option.bind_some, toB_B, Bool.not_true, cond_false, c1, c2, decide_true, cond_true]
  rw [h7']
  generalize hmm : l ++ [(⟨lastN, rs, 68719476736⟩ : Lt)] = m
  have l6 := fun p q a b c d => l6_0' hu (by omega) hr p q a b c d l 0 rfl
  rw [show (U.I ((0 : Nat) : Int)) = U.I 0 from rfl] at l6
  simp only [Option.bind_some, l6]
  cases hbad : l.any badL with
  | true => rfl
  | false =>
    simp only [cond_false, loK_some_brk, nth_zero, nth_succ, toI_I]
    by_cases h : (lfault l).1 = 0
    · by_cases h' : (lfault m).1 = 0
      · have g := good_of h
        have hn : l.length ≤ 1000000 := by have := g.len; omega
        have hml : m.length = l.length + 1 := by rw [← hmm]; simp
        have lq : (U.ofL false (m.map fun x => U.I (parOf m x))).len = l.length + 1 := by simp [hml]
        have b1 : (0 : Int) ≤ ((l.length : Nat) : Int) := by omega
        have b2 : ((l.length : Nat) : Int) ≤ ((l.length + 1 : Nat) : Int) := by omega
        have ww : IntKind.wrap .i64 (((l.length : Nat) : Int) + 1) = ((l.length + 1 : Nat) : Int) := w64s (by omega)
        have i1 := s14 ((pars_is false m).sub (n := l.length) (by simp [hml])) (pars_is false l) (by simp [hml]; omega)
        have e1 : (m.map (parOf m)).take l.length = l.map (parOf l) := by
          rw [← hmm, List.map_append, List.take_left' (by simp)]
          refine List.map_congr_left fun x hx => parOf_app fun b hb he => ?_
          rw [List.any_eq_false] at hbad
          refine hbad x hx ?_
          unfold badL
          rw [Bool.or_eq_true, List.any_eq_true]
          exact .inr ⟨b, hb, by simp [← he]⟩
        rw [e1, decide_eq_true rfl] at i1
        simp only [h, h', decide_true, cond_true, f2, get_ofL', nth_zero, nth_succ, toI_I, Bool.not_true, Bool.or_self, cond_false, hu.len, lq, ww, b1, b2, Bool.and_self, Bool.true_or, i1, Option.bind_some, toB_B]
      · simp only [h, h', decide_true, decide_false, cond_true, cond_false, f2, get_ofL', nth_zero, nth_succ, toI_I, Bool.not_true, Bool.not_false, Bool.or_true]
    · simp only [h, decide_false, cond_false, f2, get_ofL', nth_zero, nth_succ, toI_I, Bool.not_false, Bool.true_or, cond_true]
end Go.Proofs.Ytbppeodcnkghpaa
end
