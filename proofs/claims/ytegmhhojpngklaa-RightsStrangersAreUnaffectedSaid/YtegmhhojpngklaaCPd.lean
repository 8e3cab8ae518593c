/- What the functions of groups and grants yield: whom a grant concerns, and the sums of rights. -/
import Derived.Test.YtegmhhojpngklaaCPc
namespace Go.Proofs.Ytegmhhojpngklaa
open Go.Ab
set_option linter.unusedVariables false
set_option linter.unusedSimpArgs false

theorem gf_code : ∀ (l : List Gr) (p : Option Gr) (i : Nat) f, gf p i l = some f → f.1 ≠ 0
  | [], _, _, _, h => by cases h
  | x :: r, p, i, f, h => by
    rw [gf_cons] at h
    revert h
    cases who x.1
    · intro h; cases h; exact (by decide : (10 : Int) ≠ 0)
    · cases (decide ((1 : Int) ≤ x.2.2) && decide (x.2.2 ≤ 63))
      · intro h; cases h; exact (by decide : (3 : Int) ≠ 0)
      · cases bad p x
        · exact gf_code r _ _ _
        · intro h; cases h; exact (by decide : (19 : Int) ≠ 0)
theorem gfault_code (l : List Gr) (h : (gfault l).1 = 0) : gfault l = (0, 0) := by
  revert h
  unfold gfault
  cases decide ((60 : Int) < l.length)
  · cases hg : gf none 0 l with
    | none => intro _; rfl
    | some f => intro h; exact (gf_code l _ _ _ hg h).elim
  · intro h; exact absurd h (by decide : ¬ (2 : Int) = 0)
theorem pf_code : ∀ (l : List Gp) (p : List Gp) (i : Nat) f, pf p i l = some f → f.1 ≠ 0
  | [], _, _, _, h => by cases h
  | x :: r, p, i, f, h => by
    rw [pf_cons] at h
    revert h
    cases user x.1
    · intro h; cases h; exact (by decide : (10 : Int) ≠ 0)
    · cases p.any (fun y => decide (y.1 = x.1))
      · cases decide ((300 : Int) < x.2.2.length)
        · cases x.2.2.any (fun m => !user m)
          · exact pf_code r _ _ _
          · intro h; cases h; exact (by decide : (10 : Int) ≠ 0)
        · intro h; cases h; exact (by decide : (2 : Int) ≠ 0)
      · intro h; cases h; exact (by decide : (7 : Int) ≠ 0)
theorem pfault_code (l : List Gp) (h : (pfault l).1 = 0) : pfault l = (0, 0) := by
  revert h
  unfold pfault
  cases decide ((60 : Int) < l.length)
  · cases hg : pf [] 0 l with
    | none => intro _; rfl
    | some f => intro h; exact (pf_code l _ _ _ hg h).elim
  · intro h; exact absurd h (by decide : ¬ (2 : Int) = 0)

/-- grants without a fault -/
def Val (x : Gr) : Prop := who x.1 = true ∧ 1 ≤ x.2.2 ∧ x.2.2 ≤ 63
def Ord : Option Gr → List Gr → Prop
  | _, [] => True
  | p, x :: r => (∀ y, p = some y → aft x y = true) ∧ Ord (some x) r
theorem gf_none : ∀ (l : List Gr) (p : Option Gr) (i : Nat), gf p i l = none ↔ (∀ x ∈ l, Val x) ∧ Ord p l
  | [], _, _ => by simp [gf, Ord]
  | x :: r, p, i => by
    rw [gf_cons]
    have ih := gf_none r (some x) (i + 1)
    constructor
    · intro h
      cases h1 : who x.1
      · rw [h1] at h; cases h
      · rw [h1] at h
        cases h2 : (decide ((1 : Int) ≤ x.2.2) && decide (x.2.2 ≤ 63))
        · rw [h2] at h; cases h
        · rw [h2] at h
          cases h3 : bad p x
          · rw [h3] at h
            have := ih.1 h
            simp only [Bool.and_eq_true, decide_eq_true_eq] at h2
            refine ⟨fun y hy => ?_, fun y hy => ?_, this.2⟩
            · rcases List.mem_cons.1 hy with rfl | hy
              · exact ⟨h1, h2⟩
              · exact this.1 y hy
            · subst hy; simpa [bad] using h3
          · rw [h3] at h; cases h
    · rintro ⟨h1, h2, h3⟩
      obtain ⟨a, b, c⟩ := h1 x (List.mem_cons_self ..)
      have : bad p x = false := by
        cases p with
        | none => rfl
        | some y => simp [bad, h2 y rfl]
      rw [a, decide_eq_true b, decide_eq_true c, this]
      exact ih.2 ⟨fun y hy => h1 y (List.mem_cons_of_mem _ hy), h3⟩
structure Good (l : List Gr) : Prop where
  len : l.length ≤ 60
  val : ∀ x ∈ l, Val x
  ord : Ord none l
theorem gfault_good (l : List Gr) : gfault l = (0, 0) ↔ Good l := by
  unfold gfault
  constructor
  · intro h
    by_cases hl : (60 : Int) < l.length
    · rw [decide_eq_true hl] at h; exact absurd (congrArg Prod.fst h) (by decide : ¬ (2 : Int) = 0)
    · rw [decide_eq_false hl] at h
      cases hg : gf none 0 l with
      | none =>
        have := (gf_none l none 0).1 hg
        exact ⟨by omega, this.1, this.2⟩
      | some f => rw [hg] at h; exact (gf_code l _ _ _ hg (by have : f = (0, 0) := h; rw [this])).elim
  · intro h
    have hl : ¬ (60 : Int) < l.length := by have := h.len; omega
    rw [decide_eq_false hl, (gf_none l none 0).2 ⟨h.val, h.ord⟩]; rfl

def anyone : List UInt8 := [97, 110, 121, 111, 110, 101]
def isIn (v : List UInt8) (g : Gp) : Bool := g.2.2.any fun x => decide (v = x)
def con (ps : List Gp) (w v : List UInt8) : Bool := ps.any (fun g => decide (35 :: g.1 = w) && isIn v g) || (decide (w = v) || decide (w = anyone))
theorem l21 {u : U} {ps : List Gp} (h : Is pU u ps) (hl : Short ps) (hs : ∀ x ∈ ps, GpOk x) (w v : List UInt8) : ∀ r (i : Nat), ps.drop i = r → Lp K 21 0 ⟨[u, .S w, .S v, .I (i : Nat)], []⟩ = some (bif r.any (fun g => decide (35 :: g.1 = w) && isIn v g) then .ret (.B true) else .brk ⟨[.S w, .S v], []⟩)
  | [], i, hd => by
    refine l21_0 _ _ _ _ ?_
    have := drop_nil_ge hd
    have : ¬ ((i : Int) < (ps.length : Int)) := by omega
    simp [this, h.len]
  | x :: r, i, hd => by
    have k := Cur.of hd
    have hlt := k.lt
    unfold Short at hl
    refine l21_0 _ _ _ _ ?_
    have h1 : ((i : Int) < (ps.length : Int)) := by omega
    have h2 : (0 : Int) ≤ (i : Int) := by omega
    have ih := l21 h hl hs w v r (i + 1) k.next
    have hx := hs x (List.mem_of_getElem? k.elem)
    have h3 : ([35] : List UInt8).length + x.1.length ≤ 9223372036854775807 := by have := hx.name; unfold Sm at this; simp; omega
    have hm := s39 (Is.mk' U.S x.2.1 x.2.2) hx.len v
    simp only [h1, h2, h3, h.len, decide_true, cond_true, Bool.and_self, Int.toNat_natCast, h.get i x k.elem, pU0, pU1, toS_S, w64s (show i < 9223372036854775807 by omega), ih, List.any_cons, hm, Bool.true_or, List.cons_append, List.nil_append]
    show ((bif decide (35 :: x.1 = w) then some (U.B (isIn v x)) else some (U.I 0)).bind _) = _
    cases decide (35 :: x.1 = w)
    · rfl
    · cases isIn v x <;> rfl
theorem s21 {u : U} {ps : List Gp} (h : Is pU u ps) (hl : Short ps) (hs : ∀ x ∈ ps, GpOk x) (w v : List UInt8) : Fi K 21 [u, .S w, .S v] = some (.B (con ps w v)) := by
  refine e21 _ _ _ ?_
  rw [show Lp K 21 0 ⟨[u, .S w, .S v, .I 0], []⟩ = _ from l21 h hl hs w v ps 0 rfl]
  unfold con
  cases ps.any (fun g => decide (35 :: g.1 = w) && isIn v g) <;> rfl
theorem s48 (s : List UInt8) : Fi K 48 [.S s, .S [35]] = some (match s with | 35 :: t => .ofL false [.S t, .B true] | _ => .ofL false [.S s, .B false]) := by
  refine e48 _ _ ?_
  have : Fi K 54 [.S s, .S [35]] = some (match s with | 35 :: t => .ofL false [.S t, .B true] | _ => .ofL false [.S s, .B false]) := by
    refine e54 _ _ ?_
    rw [s56h]
    match s with
    | [] => rfl
    | c :: t =>
      by_cases h : c = 35
      · subst h
        have : ((1 : Int) ≤ (t.length : Int) + 1) := by omega
        simp [this, isH]
      · have h2 := isH_no (t := t) h
        have h3 : (match (c :: t : List UInt8) with | 35 :: t => U.ofL false [.S t, .B true] | _ => .ofL false [.S (c :: t), .B false]) = .ofL false [.S (c :: t), .B false] := by split <;> simp_all
        simp only [h2, h3]
        rfl
  rw [this]
  split <;> rfl
theorem s49 (g : Gp) (hg : GpOk g) (n v : List UInt8) : Fi K 49 [pU g, .S n, .S v] = some (.B (decide (g.1 = n) && isIn v g)) := by
  refine e49 _ _ _ ?_
  simp only [pU0, pU1, toS_S, s50 (Is.mk' U.S g.2.1 g.2.2) hg.len v]
  by_cases hn : g.1 = n
  · simp only [hn, decide_true, cond_true, Option.bind_some, toB_B, Bool.true_and]
    rfl
  · simp only [hn, decide_false, cond_false, Option.bind_some, toB_B, Bool.false_and]
theorem s40 {u : U} {ps : List Gp} (h : Is pU u ps) (hl : Short ps) (hs : ∀ x ∈ ps, GpOk x) (w v : List UInt8) (hv : user v = true) : Fi K 40 [u, .S w, .S v] = some (.B (con ps w v)) := by
  refine e40 _ _ _ ?_
  rw [s48]
  have hv' : ∀ t, v ≠ 35 :: t := fun t e => by rw [e, user_hash] at hv; cases hv
  split
  · rename_i t
    have i := s34 (c := U.C 49 2 (U.nth [.S t, .S v])) h hl (fun g => decide (g.1 = t) && isIn v g) (fun g hg => s49 g (hs g hg) t v)
    simp only [Option.bind_some, get_ofL', nth_succ, nth_zero, toB_B, cond_true, toS_S, i]
    unfold con
    have h1 : (35 :: t) ≠ v := fun e => hv' t e.symm
    have h2 : (35 :: t) ≠ anyone := by simp [anyone]
    simp [h1, h2]
  · rename_i hne
    simp only [Option.bind_some, get_ofL', nth_succ, nth_zero, toB_B, cond_false]
    unfold con
    have : ps.any (fun g => decide (35 :: g.1 = w) && isIn v g) = false := by
      rw [List.any_eq_false]
      intro g _
      have : (35 :: g.1) ≠ w := fun e => hne g.1 e.symm
      simp [this]
    rw [this, Bool.false_or, Bool.or_comm]
    rfl

/-- the rights of those grants for which p holds -/
def orr (p : Gr → Bool) : List Gr → Nat
  | [] => 0
  | x :: r => (bif p x then x.2.2.toNat else 0) ||| orr p r
theorem orr_lt (p : Gr → Bool) : ∀ (l : List Gr), (∀ x ∈ l, x.2.2 ≤ 63) → orr p l < 64
  | [], _ => by simp [orr]
  | x :: r, h => by
    have h1 := h x (List.mem_cons_self ..)
    have : (bif p x then x.2.2.toNat else 0) < 2 ^ 6 := by cases p x <;> simp <;> omega
    exact Nat.or_lt_two_pow this (orr_lt p r fun y hy => h y (List.mem_cons_of_mem _ hy))
theorem orr_bit (p : Gr → Bool) (b : Nat) : ∀ (l : List Gr), (orr p l).testBit b = l.any fun x => p x && x.2.2.toNat.testBit b
  | [] => by simp [orr]
  | x :: r => by
    rw [orr, Nat.testBit_or, orr_bit p b r, List.any_cons]
    cases p x <;> simp
set_option maxRecDepth 100000 in
theorem ibit_or' : ∀ a : Fin 64, ∀ b : Fin 64, ibit .or .i64 a.val b.val = ((a.val ||| b.val : Nat) : Int) := by decide +kernel
theorem ibit_or {a : Nat} {b : Int} (ha : a < 64) (h0 : 0 ≤ b) (hb : b < 64) : ibit .or .i64 a b = ((a ||| b.toNat : Nat) : Int) := by
  have := ibit_or' ⟨a, ha⟩ ⟨b.toNat, by omega⟩
  have e : ((b.toNat : Nat) : Int) = b := by omega
  simp only [e] at this
  exact this

def pos (ps : List Gp) (v : List UInt8) (x : Gr) : Bool := con ps x.1 v && !x.2.1
def neg (ps : List Gp) (v : List UInt8) (x : Gr) : Bool := con ps x.1 v && x.2.1
def sum (ps : List Gp) (v : List UInt8) (l : List Gr) : Int := ibit .andNot .i64 (orr (pos ps v) l : Nat) (orr (neg ps v) l : Nat)

theorem l24 {u w : U} {ps : List Gp} {l : List Gr} (h : Is pU u ps) (hl : Short ps) (hs : ∀ x ∈ ps, GpOk x) (k : Is gU w l) (kl : Short l) (kv : ∀ x ∈ l, 0 ≤ x.2.2 ∧ x.2.2 ≤ 63) (v : List UInt8) (hv : user v = true) :
    ∀ r (i a b : Nat), l.drop i = r → a < 64 → b < 64 → Lp K 24 0 ⟨[u, .S v, .I a, .I b, w, .I (l.length : Nat), .I (i : Nat)], []⟩ = some (.brk ⟨[.I ((a ||| orr (pos ps v) r : Nat)), .I ((b ||| orr (neg ps v) r : Nat))], []⟩)
  | [], i, a, b, hd, _, _ => by
    refine l24_0 _ _ _ _ _ _ _ ?_
    have := drop_nil_ge hd
    have : ¬ ((i : Int) < (l.length : Int)) := by omega
    simp [this, orr]
  | x :: r, i, a, b, hd, ha, hb => by
    have c := Cur.of hd
    have hlt := c.lt
    unfold Short at kl
    refine l24_0 _ _ _ _ _ _ _ ?_
    have h1 : ((i : Int) < (l.length : Int)) := by omega
    have h2 : (0 : Int) ≤ (i : Int) := by omega
    have hx := kv x (List.mem_of_getElem? c.elem)
    have ih := fun a b => l24 h hl hs k kl kv v hv r (i + 1) a b c.next
    simp only [h1, h2, k.len, decide_true, cond_true, Bool.and_self, Int.toNat_natCast, k.get i x c.elem, gU0, gU1, gU2, toS_S, toB_B, toI_I, s40 h hl hs x.1 v hv, Option.bind_some, w64s (show i < 9223372036854775807 by omega)]
    have e1 : orr (pos ps v) (x :: r) = (bif con ps x.1 v && !x.2.1 then x.2.2.toNat else 0) ||| orr (pos ps v) r := rfl
    have e2 : orr (neg ps v) (x :: r) = (bif con ps x.1 v && x.2.1 then x.2.2.toNat else 0) ||| orr (neg ps v) r := rfl
    rw [e1, e2]
    have h3 : a ||| x.2.2.toNat < 2 ^ 6 := Nat.or_lt_two_pow ha (by omega)
    have h4 : b ||| x.2.2.toNat < 2 ^ 6 := Nat.or_lt_two_pow hb (by omega)
    cases con ps x.1 v
    · simp only [Bool.not_false, cond_true, Bool.false_and, cond_false, Nat.zero_or, ih a b ha hb]
    · cases x.2.1
      · simp only [Bool.not_true, Bool.not_false, Bool.and_false, Bool.and_true, Bool.true_and, cond_true, cond_false, loK_some_brk, nth_zero, nth_succ, toS_S, toI_I, ibit_or ha hx.1 (by omega), w64s (show i < 9223372036854775807 by omega), Nat.zero_or, ← Nat.or_assoc]
        exact ih _ _ h3 hb
      · simp only [Bool.not_true, Bool.not_false, Bool.and_false, Bool.and_true, Bool.true_and, cond_true, cond_false, loK_some_brk, nth_zero, nth_succ, toS_S, toI_I, ibit_or hb hx.1 (by omega), w64s (show i < 9223372036854775807 by omega), Nat.zero_or, ← Nat.or_assoc]
        exact ih _ _ ha h4
theorem s24 {u w : U} {ps : List Gp} {l : List Gr} (h : Is pU u ps) (hl : Short ps) (hs : ∀ x ∈ ps, GpOk x) (k : Is gU w l) (kl : Short l) (kv : ∀ x ∈ l, 0 ≤ x.2.2 ∧ x.2.2 ≤ 63) (v : List UInt8) (hv : user v = true) :
    Fi K 24 [u, w, .S v] = some (.I (sum ps v l)) := by
  refine e24 _ _ _ ?_
  rw [k.len, show Lp K 24 0 ⟨[u, .S v, .I 0, .I 0, w, .I (l.length : Nat), .I 0], []⟩ = _ from l24 h hl hs k kl kv v hv l 0 0 0 rfl (by decide) (by decide), Nat.zero_or, Nat.zero_or]
  rfl

/-- whether a right is among those of a grant, as it is found by division -/
def qb (k r : Int) : Bool := decide (Int.tmod (IntKind.wrap .i64 (Int.tdiv r k)) 2 = 1)
set_option maxRecDepth 100000 in
theorem qb_bit' : ∀ b : Fin 6, ∀ r : Fin 64, qb ((2 ^ b.val : Nat) : Int) ((r.val : Nat) : Int) = r.val.testBit b.val := by decide +kernel
theorem l16i {u w : U} {ps : List Gp} {l : List Gr} (h : Is pU u ps) (hl : Short ps) (hs : ∀ x ∈ ps, GpOk x) (k : Is gU w l) (kl : Short l) (v : List UInt8) (o q : Int) (hq : q ≠ 0) :
    ∀ r (i : Nat) (a b : Bool), l.drop i = r → Lp K 16 2 ⟨[u, w, .S v, .I o, .I q, .B a, .B b, .I (i : Nat)], []⟩ = some (.brk ⟨[u, w, .S v, .I o, .I q, .B (a || r.any fun x => pos ps v x && qb q x.2.2), .B (b || r.any fun x => neg ps v x && qb q x.2.2)], []⟩)
  | [], i, a, b, hd => by
    refine l16_2 _ _ _ _ _ _ _ _ ?_
    have := drop_nil_ge hd
    have : ¬ ((i : Int) < (l.length : Int)) := by omega
    simp [this, k.len]
  | x :: r, i, a, b, hd => by
    have c := Cur.of hd
    have hlt := c.lt
    unfold Short at kl
    refine l16_2 _ _ _ _ _ _ _ _ ?_
    have h1 : ((i : Int) < (l.length : Int)) := by omega
    have h2 : (0 : Int) ≤ (i : Int) := by omega
    have ih := fun a b => l16i h hl hs k kl v o q hq r (i + 1) a b c.next
    simp only [h1, h2, hq, k.len, decide_true, decide_false, Bool.not_false, cond_true, Bool.and_self, Bool.true_or, Int.toNat_natCast, k.get i x c.elem, gU0, gU1, gU2, toS_S, toB_B, toI_I, s21 h hl hs x.1 v, List.any_cons]
    show ((bif qb q x.2.2 then some (U.B (con ps x.1 v)) else some (U.I 0)).bind fun (r1 : U) => loK (bif qb q x.2.2 && r1.toB then _ else _) _ _) = _
    unfold pos neg
    cases qb q x.2.2
    · simp only [cond_false, Option.bind_some, Bool.false_and, loK_some_brk, nth_zero, nth_succ, toS_S, toI_I, toB_B, w64s (show i < 9223372036854775807 by omega), Bool.and_false, Bool.false_or]
      exact ih a b
    · cases con ps x.1 v
      · simp only [cond_true, cond_false, Option.bind_some, toB_B, Bool.and_false, Bool.false_and, loK_some_brk, nth_zero, nth_succ, toS_S, toI_I, w64s (show i < 9223372036854775807 by omega), Bool.false_or]
        exact ih a b
      · simp only [cond_true, Option.bind_some, toB_B, Bool.and_self, Bool.and_true, Bool.true_and, loK_some_brk, nth_zero, nth_succ, toS_S, toI_I, w64s (show i < 9223372036854775807 by omega), ← Bool.or_assoc]
        exact ih _ _
set_option maxRecDepth 100000 in
theorem six' : ∀ a : Fin 64, ∀ b : Fin 64,
    (let s := fun (n : Nat) (o : Int) => bif a.val.testBit n && !b.val.testBit n then IntKind.wrap .i64 (o + ((2 ^ n : Nat) : Int)) else o
     s 5 (s 4 (s 3 (s 2 (s 1 (s 0 0)))))) = ibit .andNot .i64 a.val b.val := by decide +kernel
theorem s16 {u w : U} {ps : List Gp} {l : List Gr} (h : Is pU u ps) (hl : Short ps) (hs : ∀ x ∈ ps, GpOk x) (k : Is gU w l) (kl : Short l) (kv : ∀ x ∈ l, 0 ≤ x.2.2 ∧ x.2.2 ≤ 63) (v : List UInt8) :
    Fi K 16 [u, w, .S v] = some (.I (sum ps v l)) := by
  have hG := orr_lt (pos ps v) l fun x hx => (kv x hx).2
  have hD := orr_lt (neg ps v) l fun x hx => (kv x hx).2
  have bit : ∀ (p : Gr → Bool) (b : Nat), b < 6 → (l.any fun x => p x && qb ((2 ^ b : Nat) : Int) x.2.2) = (orr p l).testBit b := by
    intro p b hb
    rw [orr_bit]
    have : ∀ (m : List Gr), (∀ x ∈ m, 0 ≤ x.2.2 ∧ x.2.2 ≤ 63) → (m.any fun x => p x && qb ((2 ^ b : Nat) : Int) x.2.2) = m.any fun x => p x && x.2.2.toNat.testBit b := by
      intro m
      induction m with
      | nil => intro _; rfl
      | cons x r ih =>
        intro hm
        have hx := hm x (List.mem_cons_self ..)
        rw [List.any_cons, List.any_cons, ih fun y hy => hm y (List.mem_cons_of_mem _ hy)]
        have := qb_bit' ⟨b, hb⟩ ⟨x.2.2.toNat, by omega⟩
        have e : ((x.2.2.toNat : Nat) : Int) = x.2.2 := by omega
        simp only [e] at this
        rw [this]
    exact this l kv
  have step : ∀ (n : Nat) (o : Int), n < 6 → ∀ (r : LO), Lp K 16 0 ⟨[u, w, .S v, .I (bif (orr (pos ps v) l).testBit n && !(orr (neg ps v) l).testBit n then IntKind.wrap .i64 (o + ((2 ^ n : Nat) : Int)) else o), .I ((2 ^ (n + 1) : Nat) : Int)], []⟩ = some r → Lp K 16 0 ⟨[u, w, .S v, .I o, .I ((2 ^ n : Nat) : Int)], []⟩ = some r := by
    intro n o hn r hr
    refine l16_0 _ _ _ _ _ ?_
    have hp : 2 ^ n ≤ 2 ^ 5 := Nat.pow_le_pow_right (by decide) (by omega)
    have hp0 : 0 < 2 ^ n := Nat.pow_pos (by decide)
    have h1 : (((2 ^ n : Nat) : Int) < 64) := by omega
    have h2 : ((2 ^ n : Nat) : Int) ≠ 0 := by omega
    have i := l16i h hl hs k kl v o _ h2 l 0 false false rfl
    rw [show U.I ((0 : Nat) : Int) = U.I 0 from rfl, bit _ n hn, bit _ n hn, Bool.false_or, Bool.false_or] at i
    have h3 : IntKind.wrap .i64 (2 * ((2 ^ n : Nat) : Int)) = ((2 ^ (n + 1) : Nat) : Int) := by
      rw [w64 (by omega) (by omega), Nat.pow_succ]; omega
    simp only [h1, decide_true, cond_true, i, loK_some_brk, nth_zero, nth_succ, toS_S, toI_I, toB_B]
    rw [← hr]
    cases ((orr (pos ps v) l).testBit n && !(orr (neg ps v) l).testBit n) <;> simp only [cond_true, cond_false, loK_some_brk, nth_zero, nth_succ, toS_S, toI_I, h3]
  have last : ∀ o : Int, Lp K 16 0 ⟨[u, w, .S v, .I o, .I ((2 ^ 6 : Nat) : Int)], []⟩ = some (.brk ⟨[.I o], []⟩) := fun o => l16_0 _ _ _ _ _ rfl
  have h6 := six' ⟨_, hG⟩ ⟨_, hD⟩
  have all := step 0 0 (by decide) _ (step 1 _ (by decide) _ (step 2 _ (by decide) _ (step 3 _ (by decide) _ (step 4 _ (by decide) _ (step 5 _ (by decide) _ (last _))))))
  refine e16 _ _ _ ?_
  rw [show (U.I 1) = U.I ((2 ^ 0 : Nat) : Int) from rfl, all]
  simp only [loK_some_brk, nth_zero, toI_I]
  exact congrArg (fun n => some (U.I n)) h6
end Go.Proofs.Ytegmhhojpngklaa
