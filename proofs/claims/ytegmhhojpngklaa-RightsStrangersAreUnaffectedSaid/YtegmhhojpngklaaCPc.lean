/- What the functions of groups and grants yield: the faults of what comes in. -/
import Derived.Test.YtegmhhojpngklaaCPb
namespace Go.Proofs.Ytegmhhojpngklaa
open Go.Ab
set_option linter.unusedVariables false
set_option linter.unusedSimpArgs false

theorem bl_irrefl : ∀ a : List UInt8, Op.bytesLess a a = false
  | [] => rfl
  | c :: t => by simp [Op.bytesLess, bl_irrefl t]
theorem bl_trans : ∀ {a b c : List UInt8}, Op.bytesLess a b = true → Op.bytesLess b c = true → Op.bytesLess a c = true
  | [], [], _, h, _ => by simp [Op.bytesLess] at h
  | [], _ :: _, [], _, h => by simp [Op.bytesLess] at h
  | [], _ :: _, _ :: _, _, _ => rfl
  | x :: a, [], _, h, _ => by simp [Op.bytesLess] at h
  | x :: a, y :: b, [], _, h => by simp [Op.bytesLess] at h
  | x :: a, y :: b, z :: c, h, k => by
    simp only [Op.bytesLess, Bool.or_eq_true, decide_eq_true_eq, Bool.and_eq_true, beq_iff_eq] at *
    rcases h with h | ⟨rfl, h⟩
    · rcases k with k | ⟨rfl, k⟩
      · exact .inl (UInt8.lt_trans h k)
      · exact .inl h
    · rcases k with k | ⟨rfl, k⟩
      · exact .inl k
      · exact .inr ⟨rfl, bl_trans h k⟩
theorem bl_total : ∀ (a b : List UInt8), Op.bytesLess a b = true ∨ a = b ∨ Op.bytesLess b a = true
  | [], [] => .inr (.inl rfl)
  | [], _ :: _ => .inl rfl
  | _ :: _, [] => .inr (.inr rfl)
  | x :: a, y :: b => by
    simp only [Op.bytesLess, Bool.or_eq_true, decide_eq_true_eq, Bool.and_eq_true, beq_iff_eq]
    by_cases h : x < y
    · exact .inl (.inl h)
    · by_cases h2 : y < x
      · exact .inr (.inr (.inl h2))
      · have : x = y := by
          have h := UInt8.not_lt.1 h
          have h2 := UInt8.not_lt.1 h2
          exact UInt8.le_antisymm h2 h
        subst this
        rcases bl_total a b with h | rfl | h
        · exact .inl (.inr ⟨rfl, h⟩)
        · exact .inr (.inl rfl)
        · exact .inr (.inr (.inr ⟨rfl, h⟩))
theorem bl_asymm {a b : List UInt8} (h : Op.bytesLess a b = true) : Op.bytesLess b a = false := by
  cases k : Op.bytesLess b a
  · rfl
  · have := bl_trans h k; rw [bl_irrefl] at this; cases this
theorem bl_ne {a b : List UInt8} (h : Op.bytesLess a b = true) : a ≠ b := fun e => by subst e; rw [bl_irrefl] at h; cases h

/-- the same grant but for its rights -/
def same (a b : Gr) : Prop := a.1 = b.1 ∧ a.2.1 = b.2.1
theorem aft_iff (a b : Gr) : aft a b = true ↔ Op.bytesLess b.1 a.1 = true ∨ (a.1 = b.1 ∧ a.2.1 = true ∧ b.2.1 = false) := by
  unfold aft
  rcases bl_total a.1 b.1 with h | h | h
  · have h1 := bl_asymm h
    have h2 := bl_ne h
    simp [h, h1, h2]
  · simp [h, bl_irrefl]
  · have h1 := bl_asymm h
    have h2 := (bl_ne h).symm
    simp [h, h1, h2]
theorem cmp_neg (a b : Gr) : cmp a b < 0 ↔ aft b a = true := by
  rw [aft_iff]
  unfold cmp
  rcases bl_total a.1 b.1 with h | h | h
  · simp [h]
  · cases a.2.1 <;> cases b.2.1 <;> simp [h, bl_irrefl]
  · have h1 := bl_asymm h
    have h2 := (bl_ne h)
    have h3 := h2.symm
    simp [h1, h2, h3]
theorem cmp_zero (a b : Gr) : cmp a b = 0 ↔ same a b := by
  unfold cmp same
  rcases bl_total a.1 b.1 with h | h | h
  · simp [h, bl_ne h]
  · cases a.2.1 <;> cases b.2.1 <;> simp [h, bl_irrefl]
  · have h1 := bl_asymm h
    have h2 := (bl_ne h)
    have h3 := h2.symm
    simp [h1, h2, h3]
theorem aft_trans {a b c : Gr} (h : aft a b = true) (k : aft b c = true) : aft a c = true := by
  rw [aft_iff] at *
  rcases h with h | ⟨h1, h2, h3⟩
  · rcases k with k | ⟨k1, k2, k3⟩
    · exact .inl (bl_trans k h)
    · rw [k1] at h; exact .inl h
  · rcases k with k | ⟨k1, k2, k3⟩
    · rw [← h1] at k; exact .inl k
    · rw [h3] at k2; cases k2
theorem aft_irrefl (a : Gr) : aft a a = false := by
  cases h : aft a a
  · rfl
  · rw [aft_iff] at h
    rcases h with h | ⟨_, h2, h3⟩
    · rw [bl_irrefl] at h; cases h
    · rw [h2] at h3; cases h3
theorem aft_asymm {a b : Gr} (h : aft a b = true) : aft b a = false := by
  cases k : aft b a
  · rfl
  · have := aft_trans h k; rw [aft_irrefl] at this; cases this
theorem aft_total (a b : Gr) : aft a b = true ∨ same a b ∨ aft b a = true := by
  rw [aft_iff, aft_iff]
  rcases bl_total a.1 b.1 with h | h | h
  · exact .inr (.inr (.inl h))
  · cases ha : a.2.1 <;> cases hb : b.2.1
    · exact .inr (.inl ⟨h, by rw [ha, hb]⟩)
    · exact .inr (.inr (.inr ⟨h.symm, rfl, rfl⟩))
    · exact .inl (.inr ⟨h, rfl, rfl⟩)
    · exact .inr (.inl ⟨h, by rw [ha, hb]⟩)
  · exact .inl (.inl h)
theorem aft_same {a b c : Gr} (h : same a b) : aft a c = aft b c := by unfold aft; rw [h.1, h.2]
theorem aft_same' {a b c : Gr} (h : same a b) : aft c a = aft c b := by unfold aft; rw [h.1, h.2]
theorem same.symm {a b : Gr} (h : same a b) : same b a := ⟨h.1.symm, h.2.symm⟩

def bad (p : Option Gr) (x : Gr) : Bool := match p with | some y => !aft x y | none => false
theorem bad_some (y x : Gr) : bad (some y) x = !aft x y := rfl
/-- the first fault of grants -/
def gf : Option Gr → Nat → List Gr → Option (Int × Int)
  | _, _, [] => none
  | p, i, x :: r => bif !who x.1 then some (10, 100 + i) else bif !(decide ((1 : Int) ≤ x.2.2) && decide (x.2.2 ≤ 63)) then some (3, 100 + i) else
    bif bad p x then some (19, 100 + i) else gf (some x) (i + 1) r
theorem gf_cons (p : Option Gr) (i : Nat) (x : Gr) (r : List Gr) : gf p i (x :: r) = bif !who x.1 then some ((10 : Int), 100 + (i : Int)) else bif !(decide ((1 : Int) ≤ x.2.2) && decide (x.2.2 ≤ 63)) then some (3, 100 + (i : Int)) else
    bif bad p x then some (19, 100 + (i : Int)) else gf (some x) (i + 1) r := rfl
def gfault (l : List Gr) : Int × Int := bif decide ((60 : Int) < l.length) then (2, -2) else (gf none 0 l).getD (0, 0)
def prevOf (l : List Gr) (i : Nat) : Option Gr := match i with | 0 => none | i + 1 => l[i]?
def out (o : Option (Int × Int)) : LO := match o with | some f => .ret (fU f) | none => .brk ⟨[.I 0, .I 0], []⟩

theorem l10 {u : U} {l : List Gr} (h : Is gU u l) (hl : Short l) (hs : ∀ x ∈ l, Sm x.1) : ∀ r (i : Nat), l.drop i = r → Lp K 10 0 ⟨[u, .I 0, .I 0, .I (i : Nat)], []⟩ = some (out (gf (prevOf l i) i r))
  | [], i, hd => by
    refine l10_0 _ _ _ _ ?_
    have := drop_nil_ge hd
    have : ¬ ((i : Int) < (l.length : Int)) := by omega
    simp [this, h.len, gf, out]
  | x :: r, i, hd => by
    have k := Cur.of hd
    have hlt := k.lt
    unfold Short at hl
    refine l10_0 _ _ _ _ ?_
    have h1 : ((i : Int) < (l.length : Int)) := by omega
    have h2 : (0 : Int) ≤ (i : Int) := by omega
    have ih := l10 h hl hs r (i + 1) k.next
    have hw : IntKind.wrap .i64 (100 + (i : Int)) = 100 + (i : Int) := w64 (by omega) (by omega)
    have hsx := hs x (List.mem_of_getElem? k.elem)
    simp only [h1, h2, h.len, decide_true, cond_true, Bool.and_self, Int.toNat_natCast, h.get i x k.elem, gU0, gU1, gU2, toS_S, toI_I, s17 _ hsx, Option.bind_some, toB_B, w64s (show i < 9223372036854775807 by omega), ih, hw, s32, s18, get_ofL', nth_zero, nth_succ, Bool.true_or]
    rw [gf_cons]
    cases who x.1
    · rfl
    · cases (decide ((1 : Int) ≤ x.2.2) && decide (x.2.2 ≤ 63))
      · rfl
      · match i with
        | 0 =>
          have hp' : prevOf l (0 + 1) = some x := k.elem
          rw [hp']; rfl
        | j + 1 =>
          have hj : IntKind.wrap .i64 (((j + 1 : Nat) : Int) - 1) = (j : Int) := by rw [w64 (by omega) (by omega)]; omega
          have h3 : (0 : Int) ≤ (j : Int) := by omega
          have h4 : ((j : Int) < (l.length : Int)) := by omega
          have h5 : (0 : Int) < ((j + 1 : Nat) : Int) := by omega
          have he : l[j]? = some l[j] := List.getElem?_eq_getElem (by omega)
          have hp : prevOf l (j + 1) = some l[j] := he
          have hp' : prevOf l (j + 1 + 1) = some x := k.elem
          simp only [hj, h3, h4, h5, decide_true, Bool.and_self, Bool.true_or, cond_true, Int.toNat_natCast, h.get j _ he, s33, Option.bind_some, toB_B, hp, hp', bad_some, Bool.true_and, Bool.not_true, cond_false]
          cases aft x l[j] <;> rfl
theorem s10 {u : U} {l : List Gr} (h : Is gU u l) (hl : Short l) (hs : ∀ x ∈ l, Sm x.1) : Fi K 10 [u] = some (fU (gfault l)) := by
  refine e10 _ ?_
  rw [h.len, show Lp K 10 0 ⟨[u, .I 0, .I 0, .I 0], []⟩ = _ from l10 h hl hs l 0 rfl, s32]
  unfold gfault
  cases decide ((60 : Int) < l.length)
  · cases hg : gf (prevOf l 0) 0 l <;> simp only [prevOf] at hg <;> rw [hg] <;> rfl
  · rfl

theorem l13 {u : U} {l : List Gr} (h : Is gU u l) (hl : Short l) (hs : ∀ x ∈ l, Sm x.1) : ∀ r (i : Nat), l.drop i = r → Lp K 13 0 ⟨[u, .I 0, .I 0, u, .I (l.length : Nat), .I (i : Nat)], []⟩ = some (out (gf (prevOf l i) i r))
  | [], i, hd => by
    refine l13_0 _ _ _ _ _ _ ?_
    have := drop_nil_ge hd
    have : ¬ ((i : Int) < (l.length : Int)) := by omega
    simp [this, h.len, gf, out]
  | x :: r, i, hd => by
    have k := Cur.of hd
    have hlt := k.lt
    unfold Short at hl
    refine l13_0 _ _ _ _ _ _ ?_
    have h1 : ((i : Int) < (l.length : Int)) := by omega
    have h2 : (0 : Int) ≤ (i : Int) := by omega
    have ih := l13 h hl hs r (i + 1) k.next
    have hw : IntKind.wrap .i64 (100 + (i : Int)) = 100 + (i : Int) := w64 (by omega) (by omega)
    have hsx := hs x (List.mem_of_getElem? k.elem)
    have hr : (decide (x.2.2 < 1) || decide ((63 : Int) < x.2.2)) = !(decide ((1 : Int) ≤ x.2.2) && decide (x.2.2 ≤ 63)) := by
      by_cases a : x.2.2 < 1 <;> by_cases b : (63 : Int) < x.2.2 <;> simp [a, b] <;> omega
    simp only [h1, h2, h.len, decide_true, cond_true, Bool.and_self, Int.toNat_natCast, h.get i x k.elem, gU0, gU1, gU2, toS_S, toI_I, toB_B, s25 _ hsx, Option.bind_some, w64s (show i < 9223372036854775807 by omega), ih, hw, s23, get_ofL', nth_zero, nth_succ, Bool.true_or, gU_eta, hr]
    rw [gf_cons]
    cases who x.1
    · rfl
    · cases (decide ((1 : Int) ≤ x.2.2) && decide (x.2.2 ≤ 63))
      · rfl
      · match i with
        | 0 =>
          have hp' : prevOf l (0 + 1) = some x := k.elem
          rw [hp']; rfl
        | j + 1 =>
          have hj : IntKind.wrap .i64 (((j + 1 : Nat) : Int) - 1) = (j : Int) := by rw [w64 (by omega) (by omega)]; omega
          have h3 : (0 : Int) ≤ (j : Int) := by omega
          have h4 : ((j : Int) < (l.length : Int)) := by omega
          have h5 : (0 : Int) < ((j + 1 : Nat) : Int) := by omega
          have he : l[j]? = some l[j] := List.getElem?_eq_getElem (by omega)
          have hp : prevOf l (j + 1) = some l[j] := he
          have hp' : prevOf l (j + 1 + 1) = some x := k.elem
          have hc := cmp_neg l[j] x
          simp only [hj, h3, h4, h5, decide_true, Bool.and_self, Bool.true_or, cond_true, Int.toNat_natCast, h.get j _ he, s29, Option.bind_some, toI_I, hp, hp', bad_some, Bool.true_and, Bool.not_true, Bool.not_false, cond_false]
          cases ha : aft x l[j]
          · rw [ha] at hc
            have : (0 : Int) ≤ cmp l[j] x := Int.not_lt.1 (fun e => by simpa using hc.1 e)
            simp only [this, decide_true]
            rfl
          · have : ¬ (0 : Int) ≤ cmp l[j] x := Int.not_le.2 (hc.2 ha)
            simp only [this, decide_false]
            rfl
theorem s13 {u : U} {l : List Gr} (h : Is gU u l) (hl : Short l) (hs : ∀ x ∈ l, Sm x.1) : Fi K 13 [u] = some (fU (gfault l)) := by
  refine e13 _ ?_
  rw [h.len, show Lp K 13 0 ⟨[u, .I 0, .I 0, u, .I (l.length : Nat), .I 0], []⟩ = _ from l13 h hl hs l 0 rfl, s23]
  unfold gfault
  cases decide ((60 : Int) < l.length)
  · cases hg : gf (prevOf l 0) 0 l <;> simp only [prevOf] at hg <;> rw [hg] <;> rfl
  · rfl

/-- the first fault of groups -/
def pf : List Gp → Nat → List Gp → Option (Int × Int)
  | _, _, [] => none
  | s, i, x :: r => bif !user x.1 then some (10, i) else bif s.any (fun y => decide (y.1 = x.1)) then some (7, i) else
    bif decide ((300 : Int) < x.2.2.length) then some (2, i) else bif x.2.2.any (fun m => !user m) then some (10, i) else pf (s ++ [x]) (i + 1) r
theorem pf_cons (s : List Gp) (i : Nat) (x : Gp) (r : List Gp) : pf s i (x :: r) = bif !user x.1 then some ((10 : Int), (i : Int)) else bif s.any (fun y => decide (y.1 = x.1)) then some (7, (i : Int)) else
    bif decide ((300 : Int) < x.2.2.length) then some (2, (i : Int)) else bif x.2.2.any (fun m => !user m) then some (10, (i : Int)) else pf (s ++ [x]) (i + 1) r := rfl
def pfault (l : List Gp) : Int × Int := bif decide ((60 : Int) < l.length) then (2, -1) else (pf [] 0 l).getD (0, 0)
structure GpOk (x : Gp) : Prop where
  name : Sm x.1
  len : Short x.2.2
  all : ∀ m ∈ x.2.2, Sm m

theorem l9_two {u : U} {l : List Gp} (h : Is pU u l) (hl : Short l) {n : Nat} {x : Gp} (hx : l[n]? = some x) : ∀ r (i : Nat), (l.take n).drop i = r → Lp K 9 2 ⟨[u, .I 0, .I 0, .I (n : Nat), .I (i : Nat)], []⟩ = some (bif r.any (fun y => decide (y.1 = x.1)) then .ret (fU (7, n)) else .brk ⟨[u, .I 0, .I 0, .I (n : Nat)], []⟩)
  | [], i, hd => by
    refine l9_2 _ _ _ _ _ ?_
    have := drop_nil_ge hd
    have hn : n < l.length := (List.getElem?_eq_some_iff.1 hx).1
    rw [List.length_take] at this
    have : ¬ ((i : Int) < (n : Int)) := by omega
    simp [this]
  | y :: r, i, hd => by
    have k := Cur.of hd
    have hlt := k.lt
    have hn : n < l.length := (List.getElem?_eq_some_iff.1 hx).1
    rw [List.length_take] at hlt
    unfold Short at hl
    refine l9_2 _ _ _ _ _ ?_
    have h1 : ((i : Int) < (n : Int)) := by omega
    have h2 : (0 : Int) ≤ (i : Int) := by omega
    have h3 : ((i : Int) < (l.length : Int)) := by omega
    have h4 : ((n : Int) < (l.length : Int)) := by omega
    have h5 : (0 : Int) ≤ (n : Int) := by omega
    have hy : l[i]? = some y := by have := k.elem; rw [List.getElem?_take] at this; split at this <;> simp_all
    have ih := l9_two h hl hx r (i + 1) k.next
    simp only [h1, h2, h3, h4, h5, h.len, decide_true, cond_true, Bool.and_self, Int.toNat_natCast, h.get i y hy, h.get n x hx, pU0, toS_S, Option.bind_some, w64s (show i < 9223372036854775807 by omega), ih, List.any_cons, s32, get_ofL', nth_zero, nth_succ, toI_I]
    cases decide (y.1 = x.1) <;> rfl
theorem l9_four {u : U} {l : List Gp} (h : Is pU u l) (hl : Short l) {n : Nat} {x : Gp} (hx : l[n]? = some x) (ho : GpOk x) : ∀ r (i : Nat), x.2.2.drop i = r → Lp K 9 4 ⟨[u, .I 0, .I 0, .I (n : Nat), .I (i : Nat)], []⟩ = some (bif r.any (fun m => !user m) then .ret (fU (10, n)) else .brk ⟨[u, .I 0, .I 0, .I (n : Nat)], []⟩)
  | [], i, hd => by
    refine l9_4 _ _ _ _ _ ?_
    have := drop_nil_ge hd
    have hn : n < l.length := (List.getElem?_eq_some_iff.1 hx).1
    have h4 : ((n : Int) < (l.length : Int)) := by omega
    have h5 : (0 : Int) ≤ (n : Int) := by omega
    have : ¬ ((i : Int) < (x.2.2.length : Int)) := by omega
    simp only [h4, h5, h.len, decide_true, cond_true, Bool.and_self, Int.toNat_natCast, h.get n x hx, pU1, len_ofL', List.length_map, this, decide_false, cond_false, List.any_nil]
  | y :: r, i, hd => by
    have k := Cur.of hd
    have hlt := k.lt
    have hn : n < l.length := (List.getElem?_eq_some_iff.1 hx).1
    have hlen := ho.len
    unfold Short at hl hlen
    refine l9_4 _ _ _ _ _ ?_
    have h1 : ((i : Int) < (x.2.2.length : Int)) := by omega
    have h2 : (0 : Int) ≤ (i : Int) := by omega
    have h4 : ((n : Int) < (l.length : Int)) := by omega
    have h5 : (0 : Int) ≤ (n : Int) := by omega
    have ih := l9_four h hl hx ho r (i + 1) k.next
    have hg := (Is.mk' U.S x.2.1 x.2.2).get i y k.elem
    have hy := ho.all y (List.mem_of_getElem? k.elem)
    simp only [h1, h2, h4, h5, h.len, decide_true, cond_true, Bool.and_self, Int.toNat_natCast, h.get n x hx, pU1, len_ofL', List.length_map, hg, toS_S, Option.bind_some, w64s (show i < 9223372036854775807 by omega), ih, List.any_cons, s14 _ hy, toB_B]
    rw [s32]
    cases user y <;> rfl
theorem l9 {u : U} {l : List Gp} (h : Is pU u l) (hl : Short l) (hs : ∀ x ∈ l, GpOk x) : ∀ r (i : Nat), l.drop i = r → Lp K 9 0 ⟨[u, .I 0, .I 0, .I (i : Nat)], []⟩ = some (out (pf (l.take i) i r))
  | [], i, hd => by
    refine l9_0 _ _ _ _ ?_
    have := drop_nil_ge hd
    have : ¬ ((i : Int) < (l.length : Int)) := by omega
    simp [this, h.len, pf, out]
  | x :: r, i, hd => by
    have k := Cur.of hd
    have hlt := k.lt
    have hl' := hl
    unfold Short at hl
    refine l9_0 _ _ _ _ ?_
    have h1 : ((i : Int) < (l.length : Int)) := by omega
    have h2 : (0 : Int) ≤ (i : Int) := by omega
    have ih := l9 h hl hs r (i + 1) k.next
    have hx := hs x (List.mem_of_getElem? k.elem)
    have i2 := l9_two h hl' k.elem (l.take i) 0 rfl
    have i4 := l9_four h hl' k.elem hx x.2.2 0 rfl
    rw [k.take] at ih
    rw [show U.I ((0 : Nat) : Int) = U.I 0 from rfl] at i2 i4
    simp only [h1, h2, h.len, decide_true, cond_true, Bool.and_self, Int.toNat_natCast, h.get i x k.elem, pU0, toS_S, s14 _ hx.name, Option.bind_some, toB_B, s32, i2, get_ofL', nth_zero, nth_succ, toI_I]
    rw [pf_cons]
    cases user x.1
    · rfl
    · cases (l.take i).any (fun y => decide (y.1 = x.1))
      · simp only [Bool.not_true, cond_false, loK_some_brk, nth_zero, nth_succ, toI_I, h1, h2, h.len, decide_true, cond_true, Bool.and_self, Int.toNat_natCast, h.get i x k.elem, pU1, len_ofL', List.length_map, s32, Option.bind_some, get_ofL', i4]
        cases decide ((300 : Int) < (x.2.2.length : Int))
        · cases x.2.2.any (fun m => !user m)
          · simp only [cond_false, loK_some_brk, nth_zero, nth_succ, toI_I, w64s (show i < 9223372036854775807 by omega), ih]
          · rfl
        · rfl
      · rfl
theorem s9 {u : U} {l : List Gp} (h : Is pU u l) (hl : Short l) (hs : ∀ x ∈ l, GpOk x) : Fi K 9 [u] = some (fU (pfault l)) := by
  refine e9 _ ?_
  rw [h.len, show Lp K 9 0 ⟨[u, .I 0, .I 0, .I 0], []⟩ = _ from l9 h hl hs l 0 rfl, s32]
  unfold pfault
  cases decide ((60 : Int) < l.length)
  · cases hg : pf (l.take 0) 0 l <;> simp only [List.take_zero] at hg <;> rw [hg] <;> rfl
  · rfl

theorem s35 (y x : Gp) : Fi K 35 [pU y, pU x] = some (.B (decide (y.1 = x.1))) := e35 _ _ rfl
theorem s37 (m : List UInt8) (hm : Sm m) : Fi K 37 [.S m] = some (.B (!user m)) := e37 _ (by rw [s22 m hm]; rfl)
theorem l12 {u : U} {l : List Gp} (h : Is pU u l) (hl : Short l) (hs : ∀ x ∈ l, GpOk x) : ∀ r (i : Nat), l.drop i = r → Lp K 12 0 ⟨[u, .I 0, .I 0, u, .I (l.length : Nat), .I (i : Nat)], []⟩ = some (out (pf (l.take i) i r))
  | [], i, hd => by
    refine l12_0 _ _ _ _ _ _ ?_
    have := drop_nil_ge hd
    have : ¬ ((i : Int) < (l.length : Int)) := by omega
    simp [this, h.len, pf, out]
  | x :: r, i, hd => by
    have k := Cur.of hd
    have hlt := k.lt
    have hl' := hl
    unfold Short at hl
    refine l12_0 _ _ _ _ _ _ ?_
    have h1 : ((i : Int) < (l.length : Int)) := by omega
    have h1' : ((i : Int) ≤ (l.length : Int)) := by omega
    have h2 : (0 : Int) ≤ (i : Int) := by omega
    have ih := l12 h hl hs r (i + 1) k.next
    have hx := hs x (List.mem_of_getElem? k.elem)
    have i2 := s34 (u := u.sub 0 i) (c := U.C 35 1 (U.nth [pU x])) (h.sub (by omega : i ≤ l.length)) (by unfold Short; rw [List.length_take]; omega) (fun y => decide (y.1 = x.1)) (fun y _ => s35 y x)
    have i4 := s36 (c := U.C 37 0 (U.nth [])) (Is.mk' U.S x.2.1 x.2.2) hx.len (fun m => !user m) (fun m hm => s37 m (hx.all m hm))
    rw [k.take] at ih
    simp only [h1, h1', h2, h.len, decide_true, cond_true, Bool.and_self, Int.toNat_natCast, h.get i x k.elem, pU0, pU1, toS_S, s22 _ hx.name, Option.bind_some, toB_B, s23, get_ofL', nth_zero, nth_succ, toI_I, pU_eta, i2, i4, len_ofL', List.length_map, w64s (show i < 9223372036854775807 by omega), ih]
    rw [pf_cons]
    cases user x.1
    · rfl
    · cases (l.take i).any (fun y => decide (y.1 = x.1))
      · cases decide ((300 : Int) < (x.2.2.length : Int))
        · cases x.2.2.any (fun m => !user m) <;> rfl
        · rfl
      · rfl
theorem s12 {u : U} {l : List Gp} (h : Is pU u l) (hl : Short l) (hs : ∀ x ∈ l, GpOk x) : Fi K 12 [u] = some (fU (pfault l)) := by
  refine e12 _ ?_
  rw [h.len, show Lp K 12 0 ⟨[u, .I 0, .I 0, u, .I (l.length : Nat), .I 0], []⟩ = _ from l12 h hl hs l 0 rfl, s23]
  unfold pfault
  cases decide ((60 : Int) < l.length)
  · cases hg : pf (l.take 0) 0 l <;> simp only [List.take_zero] at hg <;> rw [hg] <;> rfl
  · rfl
end Go.Proofs.Ytegmhhojpngklaa
