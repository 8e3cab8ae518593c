/- The program's parents are the reference's. -/
import Derived.Test.YtbppeodcnkghpaaCPe
set_option linter.unusedVariables false
set_option linter.unusedSimpArgs false
section
namespace Go.Proofs.Ytbppeodcnkghpaa
open Go.Ab
set_option linter.unusedVariables false
set_option linter.unusedSimpArgs false
set_option maxRecDepth 100000

/-- letter `j` is earlier than `x`, and the `k`-th that `x` names -/
def Va (l : List Lt) (x : Lt) (j k : Nat) : Prop := ∃ y, l[j]? = some y ∧ x.refs[k]? = some y.id ∧ earl y x = true
/-- what the loops know, once they have seen the pairs of `S` -/
def Seen (l : List Lt) (x : Lt) (S : Nat → Nat → Prop) (s : Int × Int) : Prop :=
  (s = (-1, -1) ∧ ∀ j k, S j k → ¬ Va l x j k) ∨ ∃ j k : Nat, s = ((j : Int), (k : Int)) ∧ Va l x j k ∧ ∀ j' k', S j' k' → Va l x j' k' → k' ≤ k
theorem Seen.mono {l : List Lt} {x : Lt} {S S' : Nat → Nat → Prop} {s : Int × Int} (h : Seen l x S s) (hs : ∀ j k, S' j k → S j k) : Seen l x S' s := by
  rcases h with ⟨e, h⟩ | ⟨j, k, e, v, h⟩
  · exact .inl ⟨e, fun j k q => h j k (hs j k q)⟩
  · exact .inr ⟨j, k, e, v, fun j' k' q => h j' k' (hs j' k' q)⟩
theorem seen_R {l : List Lt} {x y : Lt} {j : Nat} (hy : l[j]? = some y) : ∀ r k, x.refs.drop k = r → ∀ s, Seen l x (fun j' k' => j' < j ∨ (j' = j ∧ k' < k)) s → Seen l x (fun j' _ => j' < j + 1) (parR x y j r k s)
  | [], k, e, s, h => by
    have h0 := drop_nil_ge e
    rcases h with ⟨e, h⟩ | ⟨j0, k0, e, v, h⟩
    · refine .inl ⟨e, fun j' k' q v => ?_⟩
      have : k' < x.refs.length := by obtain ⟨y', _, v2, _⟩ := v; exact (List.getElem?_eq_some_iff.1 v2).1
      refine h j' k' ?_ v
      by_cases hj : j' = j
      · exact .inr ⟨hj, by omega⟩
      · exact .inl (by omega)
    · refine .inr ⟨j0, k0, e, v, fun j' k' q v => ?_⟩
      have : k' < x.refs.length := by obtain ⟨y', _, v2, _⟩ := v; exact (List.getElem?_eq_some_iff.1 v2).1
      refine h j' k' ?_ v
      by_cases hj : j' = j
      · exact .inr ⟨hj, by omega⟩
      · exact .inl (by omega)
  | b :: r, k, e, s, h => by
    have kk := Cur.of e
    refine seen_R hy r (k + 1) kk.next _ ?_
    have hb := kk.elem
    have hv : Va l x j k ↔ (b = y.id ∧ earl y x = true) := by
      constructor
      · rintro ⟨y', v1, v2, v3⟩
        rw [hy] at v1; cases v1
        rw [hb] at v2; cases v2
        exact ⟨rfl, v3⟩
      · rintro ⟨v1, v2⟩
        exact ⟨y, hy, by rw [hb, v1], v2⟩
    cases hc : (decide (b = y.id) && decide (s.2 < (k : Int)) && earl y x) with
    | true =>
      simp only [Bool.and_eq_true, decide_eq_true_eq] at hc
      obtain ⟨⟨c1, c2⟩, c3⟩ := hc
      refine .inr ⟨j, k, rfl, hv.2 ⟨c1, c3⟩, fun j' k' q v => ?_⟩
      rcases h with ⟨e, h⟩ | ⟨j0, k0, e, v0, h⟩
      · by_cases hn : j' < j ∨ (j' = j ∧ k' < k)
        · exact absurd v (h j' k' hn)
        · rcases q with q | q <;> omega
      · rw [e] at c2
        have c2 : (k0 : Int) < (k : Int) := c2
        by_cases hn : j' < j ∨ (j' = j ∧ k' < k)
        · have := h j' k' hn v; omega
        · rcases q with q | q <;> omega
    | false =>
      have hc : ¬ (b = y.id ∧ s.2 < (k : Int) ∧ earl y x = true) := by
        rintro ⟨c1, c2, c3⟩
        rw [decide_eq_true c1, decide_eq_true c2, c3] at hc
        cases hc
      rcases h with ⟨es, h⟩ | ⟨j0, k0, es, v0, h⟩
      · refine .inl ⟨es, fun j' k' q v => ?_⟩
        by_cases hn : j' < j ∨ (j' = j ∧ k' < k)
        · exact h j' k' hn v
        · have e1 : j' = j := by rcases q with q | q <;> omega
          have e2 : k' = k := by rcases q with q | q <;> omega
          subst e1; subst e2
          obtain ⟨v1, v2⟩ := hv.1 v
          refine hc ⟨v1, ?_, v2⟩
          rw [es]; show (-1 : Int) < (k' : Int); omega
      · refine .inr ⟨j0, k0, es, v0, fun j' k' q v => ?_⟩
        by_cases hn : j' < j ∨ (j' = j ∧ k' < k)
        · exact h j' k' hn v
        · have e1 : j' = j := by rcases q with q | q <;> omega
          have e2 : k' = k := by rcases q with q | q <;> omega
          subst e1; subst e2
          obtain ⟨v1, v2⟩ := hv.1 v
          have : ¬ (s.2 < (k' : Int)) := fun c => hc ⟨v1, c, v2⟩
          rw [es] at this
          have this : ¬ ((k0 : Int) < (k' : Int)) := this
          omega
theorem seen_O {l : List Lt} {x : Lt} : ∀ r j, l.drop j = r → ∀ s, Seen l x (fun j' _ => j' < j) s → Seen l x (fun _ _ => True) (parO x r j s)
  | [], j, e, s, h => by
    have h0 := drop_nil_ge e
    rcases h with ⟨e, h⟩ | ⟨j0, k0, e, v, h⟩
    · refine .inl ⟨e, fun j' k' _ v => ?_⟩
      have : j' < l.length := by obtain ⟨y', v1, _, _⟩ := v; exact (List.getElem?_eq_some_iff.1 v1).1
      exact h j' k' (by omega) v
    · refine .inr ⟨j0, k0, e, v, fun j' k' _ v => ?_⟩
      have : j' < l.length := by obtain ⟨y', v1, _, _⟩ := v; exact (List.getElem?_eq_some_iff.1 v1).1
      exact h j' k' (by omega) v
  | y :: r, j, e, s, h => by
    have kk := Cur.of e
    exact seen_O r (j + 1) kk.next _ (seen_R kk.elem x.refs 0 rfl s (h.mono fun j' k' q => by rcases q with q | q <;> omega))
theorem uni_eq {l : List Lt} (h : Uni l) {i j : Nat} {x y : Lt} (hx : l[i]? = some x) (hy : l[j]? = some y) (e : x.id = y.id) : i = j := by
  have key : ∀ {i j : Nat} {x y : Lt}, l[i]? = some x → l[j]? = some y → x.id = y.id → ¬ i < j := by
    intro i j x y hx hy e hlt
    have := h j y hy
    rw [List.any_eq_false] at this
    refine this x ?_ (by simp [same, e])
    exact List.mem_of_getElem? (i := i) (by rw [List.getElem?_take]; simp [hlt, hx])
  have h1 := key hx hy e
  have h2 := key hy hx e.symm
  omega
theorem oneP_iff {l : List Lt} (h : Uni l) {x : Lt} {k : Nat} {b : Bs} (hb : x.refs[k]? = some b) : ∀ j, oneP l x b = some j ↔ Va l x j k := by
  intro j
  unfold oneP
  constructor
  · intro e
    cases hf : l.findIdx? (same b) with
    | none => rw [hf] at e; cases e
    | some j' =>
      rw [hf] at e
      obtain ⟨hj, hs, _⟩ := List.findIdx?_eq_some_iff_getElem.1 hf
      have hy : l[j']? = some l[j'] := List.getElem?_eq_getElem hj
      have hs : l[j'].id = b := by simpa [same] using hs
      simp only [hy] at e
      cases he : earl l[j'] x with
      | false => rw [he] at e; cases e
      | true =>
        rw [he] at e
        cases e
        exact ⟨_, hy, by rw [hb, hs], he⟩
  · rintro ⟨y, v1, v2, v3⟩
    rw [hb] at v2
    have v2 : b = y.id := Option.some.inj v2
    cases hf : l.findIdx? (same b) with
    | none =>
      rw [List.findIdx?_eq_none_iff] at hf
      have := hf y (List.mem_of_getElem? v1)
      simp [same, v2] at this
    | some j' =>
      obtain ⟨hj, hs, _⟩ := List.findIdx?_eq_some_iff_getElem.1 hf
      have hy : l[j']? = some l[j'] := List.getElem?_eq_getElem hj
      have hs : l[j'].id = b := by simpa [same] using hs
      have : j' = j := uni_eq h hy v1 (by rw [hs, v2])
      subst this
      simp only [hy]
      rw [hy] at v1
      cases v1
      rw [v3]; rfl
theorem parN_spec {l : List Lt} (h : Uni l) {x : Lt} : ∀ n, n ≤ x.refs.length → match parN l x n with
    | none => ∀ j k, k < n → ¬ Va l x j k
    | some j => ∃ k, Va l x j k ∧ ∀ j' k', k' < n → Va l x j' k' → k' ≤ k
  | 0, _ => fun j k hk => by omega
  | n + 1, hn => by
    have ih := parN_spec h (x := x) n (by omega)
    have hb : x.refs[n]? = some x.refs[n] := List.getElem?_eq_getElem (by omega)
    have ho := oneP_iff h hb
    have e : parN l x (n + 1) = match oneP l x x.refs[n] with | none => parN l x n | some j => some j := by simp only [parN, hb]; cases oneP l x x.refs[n] <;> rfl
    rw [e]
    cases hp : oneP l x x.refs[n] with
    | some j =>
      exact ⟨n, (ho j).1 hp, fun j' k' hk _ => by omega⟩
    | none =>
      have no : ∀ j, ¬ Va l x j n := fun j v => by have := (ho j).2 v; rw [hp] at this; cases this
      simp only
      cases hq : parN l x n with
      | none =>
        rw [hq] at ih
        intro j k hk v
        by_cases hkn : k = n
        · subst hkn; exact no j v
        · exact ih j k (by omega) v
      | some j =>
        rw [hq] at ih
        obtain ⟨k, i1, i2⟩ := ih
        refine ⟨k, i1, fun j' k' hk v => ?_⟩
        by_cases hkn : k' = n
        · subst hkn; exact absurd v (no j')
        · exact i2 j' k' (by omega) v
theorem par_eq {l : List Lt} (h : Uni l) (x : Lt) : (parO x l 0 (-1, -1)).1 = parOf l x := by
  have s := seen_O (x := x) l 0 rfl (-1, -1) (.inl ⟨rfl, fun j k q => by omega⟩)
  have p := parN_spec h (x := x) x.refs.length (Nat.le_refl _)
  have len : ∀ j k, Va l x j k → k < x.refs.length := fun j k v => by obtain ⟨_, _, v2, _⟩ := v; exact (List.getElem?_eq_some_iff.1 v2).1
  unfold parOf
  rcases s with ⟨e, s⟩ | ⟨j, k, e, v, s⟩
  · rw [e]
    cases hp : parN l x x.refs.length with
    | none => rfl
    | some j => rw [hp] at p; obtain ⟨k, v, _⟩ := p; exact absurd v (s j k trivial)
  · rw [e]
    cases hp : parN l x x.refs.length with
    | none => rw [hp] at p; exact absurd v (p j k (len j k v))
    | some j' =>
      rw [hp] at p
      obtain ⟨k', v', p⟩ := p
      have h1 := s j' k' trivial v'
      have h2 := p j k (len j k v) v
      have h3 : k = k' := by omega
      subst h3
      obtain ⟨y, a1, a2, _⟩ := v
      obtain ⟨y', b1, b2, _⟩ := v'
      rw [a2] at b2
      have : j = j' := uni_eq h a1 b1 (Option.some.inj b2)
      subst this
      rfl
end Go.Proofs.Ytbppeodcnkghpaa
end
section
namespace Go.Proofs.Ytbppeodcnkghpaa
open Go.Ab
set_option linter.unusedVariables false
set_option linter.unusedSimpArgs false
set_option maxRecDepth 100000

theorem bl_irr : ∀ a : Bs, Op.bytesLess a a = false
  | [] => rfl
  | a :: x => by
    have := bl_irr x
    simp [Op.bytesLess, this]
theorem bl_trans : ∀ a b c : Bs, Op.bytesLess a b = true → Op.bytesLess b c = true → Op.bytesLess a c = true
  | _, [], _, h, _ => by simp [Op.bytesLess] at h
  | _, _ :: _, [], _, h => by simp [Op.bytesLess] at h
  | [], _ :: _, _ :: _, _, _ => rfl
  | a :: x, b :: y, c :: z, h1, h2 => by
    simp only [Op.bytesLess, Bool.or_eq_true, decide_eq_true_eq, Bool.and_eq_true, beq_iff_eq] at h1 h2 ⊢
    rcases h1 with h1 | ⟨h1, k1⟩
    · rcases h2 with h2 | ⟨h2, _⟩
      · exact .inl (UInt8.lt_trans h1 h2)
      · subst h2; exact .inl h1
    · subst h1
      rcases h2 with h2 | ⟨h2, k2⟩
      · exact .inl h2
      · exact .inr ⟨h2, bl_trans x y z k1 k2⟩
theorem bl_total : ∀ a b : Bs, Op.bytesLess a b = false → Op.bytesLess b a = false → a = b
  | [], [], _, _ => rfl
  | [], _ :: _, h, _ => by simp [Op.bytesLess] at h
  | _ :: _, [], _, h => by simp [Op.bytesLess] at h
  | a :: x, b :: y, h1, h2 => by
    simp only [Op.bytesLess, Bool.or_eq_false_iff, decide_eq_false_iff_not, Bool.and_eq_false_iff, beq_eq_false_iff_ne] at h1 h2
    obtain ⟨h1, k1⟩ := h1
    obtain ⟨h2, k2⟩ := h2
    have hab : a = b := UInt8.le_antisymm (UInt8.not_lt.1 h2) (UInt8.not_lt.1 h1)
    subst hab
    rw [bl_total x y (by rcases k1 with k | k; exact absurd rfl k; exact k) (by rcases k2 with k | k; exact absurd rfl k; exact k)]
theorem earl_irr (x : Lt) : earl x x = false := by simp [earl, bl_irr]
theorem earl_trans {x y z : Lt} (h1 : earl x y = true) (h2 : earl y z = true) : earl x z = true := by
  simp only [earl, Bool.or_eq_true, decide_eq_true_eq, Bool.and_eq_true] at h1 h2 ⊢
  rcases h1 with h1 | ⟨h1, k1⟩
  · rcases h2 with h2 | ⟨h2, _⟩ <;> exact .inl (by omega)
  · rcases h2 with h2 | ⟨h2, k2⟩
    · exact .inl (by omega)
    · exact .inr ⟨by omega, bl_trans _ _ _ k1 k2⟩
theorem earl_total {x y : Lt} (h1 : earl x y = false) (h2 : earl y x = false) : x.id = y.id := by
  simp only [earl, Bool.or_eq_false_iff, decide_eq_false_iff_not, Bool.and_eq_false_iff] at h1 h2
  obtain ⟨a1, b1⟩ := h1
  obtain ⟨a2, b2⟩ := h2
  have e : x.time = y.time := by omega
  refine bl_total _ _ ?_ ?_
  · rcases b1 with b | b
    · exact absurd e b
    · exact b
  · rcases b2 with b | b
    · exact absurd e.symm b
    · exact b
theorem s19 {u : U} {l : List Lt} (hu : LtsU u l) {i j : Nat} {x y : Lt} (hx : l[i]? = some x) (hy : l[j]? = some y) : Fi K 19 [.I (i : Nat), .I (j : Nat), u] = some (.I (cmpL x y)) := by
  have h1 := (List.getElem?_eq_some_iff.1 hx).1
  have h2 := (List.getElem?_eq_some_iff.1 hy).1
  have a1 : (0 : Int) ≤ (i : Int) := by omega
  have a2 : (0 : Int) ≤ (j : Int) := by omega
  have a3 : ((i : Int) < (l.length : Int)) := by omega
  have a4 : ((j : Int) < (l.length : Int)) := by omega
  refine e19 _ _ _ ?_
  simp only [hu.len, a1, a2, a3, a4, decide_true, Bool.and_self, cond_true, Int.toNat_natCast, s20 (hu.get i x hx) (hu.get j y hy), Option.bind_some, toI_I]
/-- the places of the letters, in order -/
def isLe (l : List Lt) (i j : Nat) : Bool := match l[i]?, l[j]? with
  | some x, some y => !earl y x
  | _, _ => true
def ordL (l : List Lt) : List Nat := (List.range l.length).mergeSort (isLe l)
def idx (n : Nat) : List U := (List.range n).map fun i => .I (i : Nat)
theorem idx_at {n i : Nat} (h : i < n) : U.nth (idx n) i = .I (i : Nat) := nth_at (by simp [idx, h])
theorem idx_len (n : Nat) : (idx n).length = n := by simp [idx]
theorem ltF_at {u : U} {l : List Lt} (hu : LtsU u l) {i j : Nat} {x y : Lt} (hx : l[i]? = some x) (hy : l[j]? = some y) : ltF (Fi K) (.C 19 1 (U.nth [u])) (.I (i : Nat)) (.I (j : Nat)) = earl x y := by
  have h : Fi K (U.C 19 1 (U.nth [u])).fid ([.I (i : Nat), .I (j : Nat)] ++ (U.C 19 1 (U.nth [u])).toL) = some (.I (cmpL x y)) := s19 hu hx hy
  unfold ltF cmpF
  rw [h]
  exact cmpL_lt x y
theorem sortable {u : U} {l : List Lt} (hu : LtsU u l) (hl : l.length ≤ 1000000) (hU : Uni l) : Sortable (Fi K) (.C 19 1 (U.nth [u])) (idx l.length) := by
  have g : ∀ i, i < l.length → ∃ x, l[i]? = some x := fun i h => ⟨_, List.getElem?_eq_getElem h⟩
  refine ⟨?_, ?_, ?_, ?_, by rw [idx_len]; omega⟩
  · intro i j hi hj
    rw [idx_len] at hi hj
    obtain ⟨x, hx⟩ := g i hi
    obtain ⟨y, hy⟩ := g j hj
    rw [idx_at hi, idx_at hj]
    have h : Fi K (U.C 19 1 (U.nth [u])).fid ([.I (i : Nat), .I (j : Nat)] ++ (U.C 19 1 (U.nth [u])).toL) = some (.I (cmpL x y)) := s19 hu hx hy
    rw [h]; rfl
  · intro i hi
    rw [idx_len] at hi
    obtain ⟨x, hx⟩ := g i hi
    rw [idx_at hi, ltF_at hu hx hx, earl_irr]
  · intro i j k hi hj hk
    rw [idx_len] at hi hj hk
    obtain ⟨x, hx⟩ := g i hi
    obtain ⟨y, hy⟩ := g j hj
    obtain ⟨z, hz⟩ := g k hk
    rw [idx_at hi, idx_at hj, idx_at hk, ltF_at hu hx hy, ltF_at hu hy hz, ltF_at hu hx hz]
    exact earl_trans
  · intro i j hi hj
    rw [idx_len] at hi hj
    obtain ⟨x, hx⟩ := g i hi
    obtain ⟨y, hy⟩ := g j hj
    rw [idx_at hi, idx_at hj, ltF_at hu hx hy, ltF_at hu hy hx]
    intro h1 h2
    exact uni_eq hU hx hy (earl_total h1 h2)
theorem sortF_at {u : U} {l : List Lt} (hu : LtsU u l) (hl : l.length ≤ 1000000) (hU : Uni l) : sortF (Fi K) [.ofL false [.B false, .C 19 1 (U.nth [u])], .ofL false [.ofL false (idx l.length)]] = some (.ofL false [.ofL false [], .ofL false [.B false], .ofL false [.ofL false ((ordL l).map fun i => .I (i : Nat))]]) := by
  have hs := sortable hu hl hU
  have e : (idx l.length).mergeSort (fun x y => !ltF (Fi K) (.C 19 1 (U.nth [u])) y x) = (ordL l).map fun i => .I (i : Nat) := by
    unfold ordL
    rw [List.map_mergeSort (s := fun x y => !ltF (Fi K) (.C 19 1 (U.nth [u])) y x)]
    · rfl
    · intro a ha b hb
      rw [List.mem_range] at ha hb
      have hx : l[a]? = some l[a] := List.getElem?_eq_getElem ha
      have hy : l[b]? = some l[b] := List.getElem?_eq_getElem hb
      rw [ltF_at hu hy hx]
      simp only [isLe, hx, hy]
  unfold sortF
  have p1 : srtC [U.ofL false [.B false, .C 19 1 (U.nth [u])], .ofL false [.ofL false (idx l.length)]] = .C 19 1 (U.nth [u]) := rfl
  have p2 : srtX [U.ofL false [.B false, .C 19 1 (U.nth [u])], .ofL false [.ofL false (idx l.length)]] = idx l.length := toL_ofL' _ _
  rw [p1, p2, if_pos hs, e]
  rfl
end Go.Proofs.Ytbppeodcnkghpaa
end
