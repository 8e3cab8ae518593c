/- What the functions of groups and grants yield: searches, orders, faults. -/
import Derived.Test.YtegmhhojpngklaaCPa
namespace Go.Proofs.Ytegmhhojpngklaa
open Go.Ab
set_option linter.unusedVariables false
set_option linter.unusedSimpArgs false

abbrev Gr := List UInt8 × Bool × Int
def gU (g : Gr) : U := .ofL false [.S g.1, .B g.2.1, .I g.2.2]
abbrev Gp := List UInt8 × Bool × List (List UInt8)
def pU (g : Gp) : U := .ofL false [.S g.1, .ofL g.2.1 (g.2.2.map U.S)]
def fU (f : Int × Int) : U := .ofL false [.I f.1, .I f.2]
@[simp] theorem gU0 (g : Gr) : (gU g).get 0 = .S g.1 := rfl
@[simp] theorem gU1 (g : Gr) : (gU g).get 1 = .B g.2.1 := rfl
@[simp] theorem gU2 (g : Gr) : (gU g).get 2 = .I g.2.2 := rfl
@[simp] theorem pU0 (g : Gp) : (pU g).get 0 = .S g.1 := rfl
@[simp] theorem pU1 (g : Gp) : (pU g).get 1 = .ofL g.2.1 (g.2.2.map U.S) := rfl
@[simp] theorem fU0 (f : Int × Int) : (fU f).get 0 = .I f.1 := rfl
@[simp] theorem fU1 (f : Int × Int) : (fU f).get 1 = .I f.2 := rfl
theorem gU_eta (g : Gr) : U.ofL false [.S g.1, .B g.2.1, .I g.2.2] = gU g := rfl
theorem fU_mk (a b : Int) : U.ofL false [.I a, .I b] = fU (a, b) := rfl
theorem pU_eta (g : Gp) : U.ofL false [.S g.1, .ofL g.2.1 (g.2.2.map U.S)] = pU g := rfl

def aft (a b : Gr) : Bool := !(Op.bytesLess a.1 b.1 || decide (a.1 = b.1)) || (decide (a.1 = b.1) && a.2.1 && !b.2.1)
theorem s33 (a b : Gr) : Fi K 33 [gU a, gU b] = some (.B (aft a b)) := e33 _ _ rfl
def cmp (a b : Gr) : Int := bif Op.bytesLess a.1 b.1 then -1 else bif !decide (a.1 = b.1) then 1 else bif a.2.1 == b.2.1 then 0 else bif b.2.1 then -1 else 1
theorem s52 (a : List UInt8) : Fi K 52 [.S a] = some (.B false) := e52 _ (by simp)
theorem s43 (a b : List UInt8) : Fi K 43 [.S a, .S b] = some (.I (bif Op.bytesLess a b then -1 else bif !decide (a = b) then 1 else 0)) := by
  refine e43 _ _ ?_
  rw [s52, s52]
  simp only [Option.bind_some, toB_B, cond_false]
  cases h : Op.bytesLess a b <;> cases h2 : decide (a = b) <;> rfl
theorem s29 (a b : Gr) : Fi K 29 [gU a, gU b] = some (.I (cmp a b)) := by
  refine e29 _ _ ?_
  simp only [gU0, gU1, toS_S, toB_B, s43, Option.bind_some, toI_I]
  unfold cmp
  cases h : Op.bytesLess a.1 b.1 <;> cases h2 : decide (a.1 = b.1) <;> cases a.2.1 <;> cases b.2.1 <;> rfl
theorem s28 (a g : Gr) : Fi K 28 [gU a, gU g] = some (.B (decide (cmp a g = 0))) := by
  refine e28 _ _ ?_
  simp only [gU0, gU1, gU2, toS_S, toB_B, toI_I, gU_eta, s29, Option.bind_some]
  rfl

/-- the place of the first element for which p holds, or -1 -/
def idx {α : Type} (p : α → Bool) : Int → List α → Int
  | _, [] => -1
  | i, x :: r => bif p x then i else idx p (i + 1) r
theorem idx_cons {α : Type} (p : α → Bool) (x : α) (r : List α) (i : Nat) : idx p i (x :: r) = bif p x then (i : Int) else idx p (i + 1 : Nat) r := rfl
theorem idx_any {α : Type} (p : α → Bool) : ∀ (l : List α) (i : Nat), decide ((0 : Int) ≤ idx p i l) = l.any p
  | [], i => by simp [idx]
  | x :: r, i => by
    unfold idx
    rw [List.any_cons]
    cases p x
    · exact idx_any p r (i + 1)
    · simp
def Short {α : Type} (l : List α) : Prop := l.length ≤ 1125899906842624

theorem l46 {u c : U} {l : List Gp} (h : Is pU u l) (hl : Short l) (p : Gp → Bool) : ∀ r (i : Nat), l.drop i = r → (∀ x ∈ r, Fi K c.fid (pU x :: c.toL) = some (.B (p x))) → Lp K 46 0 ⟨[u, c, .I (l.length : Nat), .I (i : Nat)], []⟩ = some (bif r.any p then .ret (.I (idx p i r)) else .brk ⟨[], []⟩)
  | [], i, hd, hp => by
    refine l46_0 _ _ _ _ ?_
    have := drop_nil_ge hd
    have : ¬ ((i : Int) < (l.length : Int)) := by omega
    simp [this]
  | x :: r, i, hd, hp => by
    have k := Cur.of hd
    have hlt := k.lt
    unfold Short at hl
    refine l46_0 _ _ _ _ ?_
    have h1 : ((i : Int) < (l.length : Int)) := by omega
    have h2 : (0 : Int) ≤ (i : Int) := by omega
    have ih := l46 h hl p r (i + 1) k.next (fun y hy => hp y (List.mem_cons_of_mem _ hy))
    simp only [h1, h2, h.len, decide_true, cond_true, Bool.and_self, Int.toNat_natCast, h.get i x k.elem, List.cons_append, List.nil_append, hp x (List.mem_cons_self ..), Option.bind_some, toB_B, w64s (show i < 9223372036854775807 by omega), ih, List.any_cons]
    rw [idx_cons]
    cases p x <;> rfl
theorem s46 {u c : U} {l : List Gp} (h : Is pU u l) (hl : Short l) (p : Gp → Bool) (hp : ∀ x ∈ l, Fi K c.fid (pU x :: c.toL) = some (.B (p x))) : Fi K 46 [u, c] = some (.I (idx p (0 : Nat) l)) := by
  refine e46 _ _ ?_
  rw [h.len, show (U.I 0) = U.I ((0 : Nat) : Int) from rfl, l46 h hl p l 0 rfl hp]
  have := idx_any p l 0
  cases ha : l.any p
  · have hi : ∀ (l : List Gp) (i : Int), l.any p = false → idx p i l = -1 := by
      intro l
      induction l with
      | nil => intro i _; rfl
      | cons y r ih => intro i hy; simp at hy; simp [idx, hy.1]; exact ih _ (by simpa using hy.2)
    rw [hi l _ ha]; rfl
  · rfl
theorem s34 {u c : U} {l : List Gp} (h : Is pU u l) (hl : Short l) (p : Gp → Bool) (hp : ∀ x ∈ l, Fi K c.fid (pU x :: c.toL) = some (.B (p x))) : Fi K 34 [u, c] = some (.B (l.any p)) := by
  refine e34 _ _ ?_
  rw [s46 h hl p hp]
  exact congrArg (fun b => some (U.B b)) (idx_any p l 0)

theorem l47 {u c : U} {l : List (List UInt8)} (h : Is U.S u l) (hl : Short l) (p : List UInt8 → Bool) : ∀ r (i : Nat), l.drop i = r → (∀ x ∈ r, Fi K c.fid (.S x :: c.toL) = some (.B (p x))) → Lp K 47 0 ⟨[u, c, .I (l.length : Nat), .I (i : Nat)], []⟩ = some (bif r.any p then .ret (.I (idx p i r)) else .brk ⟨[], []⟩)
  | [], i, hd, hp => by
    refine l47_0 _ _ _ _ ?_
    have := drop_nil_ge hd
    have : ¬ ((i : Int) < (l.length : Int)) := by omega
    simp [this]
  | x :: r, i, hd, hp => by
    have k := Cur.of hd
    have hlt := k.lt
    unfold Short at hl
    refine l47_0 _ _ _ _ ?_
    have h1 : ((i : Int) < (l.length : Int)) := by omega
    have h2 : (0 : Int) ≤ (i : Int) := by omega
    have ih := l47 h hl p r (i + 1) k.next (fun y hy => hp y (List.mem_cons_of_mem _ hy))
    simp only [h1, h2, h.len, decide_true, cond_true, Bool.and_self, Int.toNat_natCast, h.get i x k.elem, toS_S, List.cons_append, List.nil_append, hp x (List.mem_cons_self ..), Option.bind_some, toB_B, w64s (show i < 9223372036854775807 by omega), ih, List.any_cons]
    rw [idx_cons]
    cases p x <;> rfl
theorem idx_none {α : Type} (p : α → Bool) : ∀ (l : List α) (i : Int), l.any p = false → idx p i l = -1
  | [], _, _ => rfl
  | y :: r, i, hy => by simp at hy; simp [idx, hy.1]; exact idx_none p r _ (by simpa using hy.2)
theorem s36 {u c : U} {l : List (List UInt8)} (h : Is U.S u l) (hl : Short l) (p : List UInt8 → Bool) (hp : ∀ x ∈ l, Fi K c.fid (.S x :: c.toL) = some (.B (p x))) : Fi K 36 [u, c] = some (.B (l.any p)) := by
  have : Fi K 47 [u, c] = some (.I (idx p (0 : Nat) l)) := by
    refine e47 _ _ ?_
    rw [h.len, show (U.I 0) = U.I ((0 : Nat) : Int) from rfl, l47 h hl p l 0 rfl hp]
    cases ha : l.any p
    · rw [idx_none p l _ ha]; rfl
    · rfl
  refine e36 _ _ ?_
  rw [this]
  exact congrArg (fun b => some (U.B b)) (idx_any p l 0)

theorem l42 {u c : U} {l : List Gr} (h : Is gU u l) (hl : Short l) (p : Gr → Bool) : ∀ r (i : Nat), l.drop i = r → (∀ x ∈ r, Fi K c.fid (gU x :: c.toL) = some (.B (p x))) → Lp K 42 0 ⟨[u, c, .I (l.length : Nat), .I (i : Nat)], []⟩ = some (bif r.any p then .ret (.I (idx p i r)) else .brk ⟨[], []⟩)
  | [], i, hd, hp => by
    refine l42_0 _ _ _ _ ?_
    have := drop_nil_ge hd
    have : ¬ ((i : Int) < (l.length : Int)) := by omega
    simp [this]
  | x :: r, i, hd, hp => by
    have k := Cur.of hd
    have hlt := k.lt
    unfold Short at hl
    refine l42_0 _ _ _ _ ?_
    have h1 : ((i : Int) < (l.length : Int)) := by omega
    have h2 : (0 : Int) ≤ (i : Int) := by omega
    have ih := l42 h hl p r (i + 1) k.next (fun y hy => hp y (List.mem_cons_of_mem _ hy))
    simp only [h1, h2, h.len, decide_true, cond_true, Bool.and_self, Int.toNat_natCast, h.get i x k.elem, List.cons_append, List.nil_append, hp x (List.mem_cons_self ..), Option.bind_some, toB_B, w64s (show i < 9223372036854775807 by omega), ih, List.any_cons]
    rw [idx_cons]
    cases p x <;> rfl
theorem s42 {u c : U} {l : List Gr} (h : Is gU u l) (hl : Short l) (p : Gr → Bool) (hp : ∀ x ∈ l, Fi K c.fid (gU x :: c.toL) = some (.B (p x))) : Fi K 42 [u, c] = some (.I (idx p (0 : Nat) l)) := by
  refine e42 _ _ ?_
  rw [h.len, show (U.I 0) = U.I ((0 : Nat) : Int) from rfl, l42 h hl p l 0 rfl hp]
  cases ha : l.any p
  · rw [idx_none p l _ ha]; rfl
  · rfl

theorem l55 {u : U} {l : List (List UInt8)} (h : Is U.S u l) (hl : Short l) (t : List UInt8) : ∀ r (i : Nat), l.drop i = r → Lp K 55 0 ⟨[u, .S t, .I (l.length : Nat), .I (i : Nat)], []⟩ = some (bif r.any (fun x => decide (t = x)) then .ret (.I (idx (fun x => decide (t = x)) i r)) else .brk ⟨[], []⟩)
  | [], i, hd => by
    refine l55_0 _ _ _ _ ?_
    have := drop_nil_ge hd
    have : ¬ ((i : Int) < (l.length : Int)) := by omega
    simp [this]
  | x :: r, i, hd => by
    have k := Cur.of hd
    have hlt := k.lt
    unfold Short at hl
    refine l55_0 _ _ _ _ ?_
    have h1 : ((i : Int) < (l.length : Int)) := by omega
    have h2 : (0 : Int) ≤ (i : Int) := by omega
    have ih := l55 h hl t r (i + 1) k.next
    simp only [h1, h2, h.len, decide_true, cond_true, Bool.and_self, Int.toNat_natCast, h.get i x k.elem, toS_S, Option.bind_some, toB_B, w64s (show i < 9223372036854775807 by omega), ih, List.any_cons]
    rw [idx_cons]
    cases decide (t = x) <;> rfl
theorem s50 {u : U} {l : List (List UInt8)} (h : Is U.S u l) (hl : Short l) (t : List UInt8) : Fi K 50 [u, .S t] = some (.B (l.any fun x => decide (t = x))) := by
  have : Fi K 55 [u, .S t] = some (.I (idx (fun x => decide (t = x)) (0 : Nat) l)) := by
    refine e55 _ _ ?_
    rw [h.len, show (U.I 0) = U.I ((0 : Nat) : Int) from rfl, l55 h hl t l 0 rfl]
    cases ha : l.any fun x => decide (t = x)
    · rw [idx_none _ l _ ha]; rfl
    · rfl
  refine e50 _ _ ?_
  rw [this]
  exact congrArg (fun b => some (U.B b)) (idx_any _ l 0)
theorem l39 {u : U} {l : List (List UInt8)} (h : Is U.S u l) (hl : Short l) (t : List UInt8) : ∀ r (i : Nat), l.drop i = r → Lp K 39 0 ⟨[u, .S t, .I (i : Nat)], []⟩ = some (bif r.any (fun x => decide (t = x)) then .ret (.B true) else .brk ⟨[], []⟩)
  | [], i, hd => by
    refine l39_0 _ _ _ ?_
    have := drop_nil_ge hd
    have : ¬ ((i : Int) < (l.length : Int)) := by omega
    simp [this, h.len]
  | x :: r, i, hd => by
    have k := Cur.of hd
    have hlt := k.lt
    unfold Short at hl
    refine l39_0 _ _ _ ?_
    have h1 : ((i : Int) < (l.length : Int)) := by omega
    have h2 : (0 : Int) ≤ (i : Int) := by omega
    have ih := l39 h hl t r (i + 1) k.next
    have hc : decide (x = t) = decide (t = x) := decide_eq_decide.2 eq_comm
    simp only [h1, h2, h.len, decide_true, cond_true, Bool.and_self, Int.toNat_natCast, h.get i x k.elem, toS_S, Option.bind_some, toB_B, w64s (show i < 9223372036854775807 by omega), ih, List.any_cons, hc]
    cases decide (t = x) <;> rfl
theorem s39 {u : U} {l : List (List UInt8)} (h : Is U.S u l) (hl : Short l) (t : List UInt8) : Fi K 39 [u, .S t] = some (.B (l.any fun x => decide (t = x))) := by
  refine e39 _ _ ?_
  rw [show (U.I 0) = U.I ((0 : Nat) : Int) from rfl, l39 h hl t l 0 rfl]
  cases l.any fun x => decide (t = x) <;> rfl
end Go.Proofs.Ytegmhhojpngklaa
