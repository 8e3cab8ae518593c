/- What the functions of users, groups and grants yield. -/
import Derived.Test.YtegmhhojpngklaaAbLaw
import Derived.Test.YtegmhhojpngklaaCEq
namespace Go.Proofs.Ytegmhhojpngklaa
open Go.Ab
set_option linter.unusedVariables false
set_option linter.unusedSimpArgs false

def okc (c : UInt8) : Bool := (decide ((97 : Int) ≤ c.toNat) && decide ((c.toNat : Int) ≤ 122)) || (decide ((48 : Int) ≤ c.toNat) && decide ((c.toNat : Int) ≤ 57)) || decide ((c.toNat : Int) = 45) || decide ((c.toNat : Int) = 95) || decide ((c.toNat : Int) = 46)
def user (s : List UInt8) : Bool := s.all okc && (decide ((1 : Int) ≤ s.length) && decide ((s.length : Int) ≤ 60))
def Sm (s : List UInt8) : Prop := s.length ≤ 140737488351232
theorem s18 (a b c : Int) : Fi K 18 [.I a, .I b, .I c] = some (.B (decide (b ≤ a) && decide (a ≤ c))) := e18 a b c rfl
theorem s32 (a b : Int) : Fi K 32 [.I a, .I b] = some (.ofL false [.I a, .I b]) := e32 a b rfl
theorem s15 (a b : Int) : Fi K 15 [.I a, .I b] = some (.ofL false [.I a, .I b]) := e15 a b rfl
theorem s23 (a b : Int) : Fi K 23 [.I a, .I b] = some (.ofL false [.I a, .I b]) := e23 a b rfl

theorem l38 (s : List UInt8) (hs : Sm s) : ∀ r i, s.drop i = r → Lp K 38 0 ⟨[.S s, .B false, .I (i : Nat)], []⟩ = some (bif r.all okc then .brk ⟨[.S s], []⟩ else .ret (.B false))
  | [], i, h => by
    refine l38_0 _ _ _ ?_
    have := drop_nil_ge h
    have : ¬ ((i : Int) < (s.length : Int)) := by omega
    simp [this]
  | c :: r, i, h => by
    have k := Cur.of h
    have hl := k.lt
    unfold Sm at hs
    refine l38_0 _ _ _ ?_
    have h1 : ((i : Int) < (s.length : Int)) := by omega
    have h2 : (0 : Int) ≤ (i : Int) := by omega
    have ih := l38 s hs r (i + 1) k.next
    have hu := u8_lt c
    simp only [h1, h2, decide_true, cond_true, Bool.and_self, Int.toNat_natCast, k.getD, w64n (show c.toNat ≤ 9223372036854775807 by omega), s18, Option.bind_some, List.all_cons, w64s (show i < 9223372036854775807 by omega), ih, toB_B]
    cases ho : okc c
    · have : (decide ((97 : Int) ≤ c.toNat) && decide ((c.toNat : Int) ≤ 122)) = false := by simp [okc] at ho; simp; omega
      simp only [this, Bool.not_false, cond_true, Option.bind_some, toB_B, Bool.false_or, Bool.and_false, cond_false, Bool.false_and, Bool.or_false]
      have : (decide ((48 : Int) ≤ c.toNat) && decide ((c.toNat : Int) ≤ 57)) = false := by simp [okc] at ho; simp; omega
      simp only [this, Bool.false_or]
      have : (decide ((c.toNat : Int) = 45) || decide ((c.toNat : Int) = 95) || decide ((c.toNat : Int) = 46)) = false := by simp [okc] at ho; simp; omega
      simp [this]
    · cases h3 : (decide ((97 : Int) ≤ c.toNat) && decide ((c.toNat : Int) ≤ 122))
      · simp only [okc, h3] at ho
        simp only [Bool.not_false, cond_true, Option.bind_some, toB_B, ho, Bool.not_true, Bool.false_and, Bool.and_false, cond_false, Bool.or_false]
        simp
      · simp
theorem s38 (s : List UInt8) (hs : Sm s) : Fi K 38 [.S s, .B false] = some (.B (user s)) := by
  refine e38 _ _ ?_
  rw [show (U.I 0) = U.I ((0 : Nat) : Int) from rfl, l38 s hs s 0 rfl]
  unfold user
  cases h : s.all okc <;> simp [s18] <;> rfl
theorem s14 (s : List UInt8) (hs : Sm s) : Fi K 14 [.S s] = some (.B (user s)) := e14 _ (by rw [s38 s hs]; rfl)

theorem l22 (s : List UInt8) (hs : Sm s) : ∀ r i, s.drop i = r → Lp K 22 0 ⟨[.S s, .I (s.length : Nat), .I (i : Nat)], []⟩ = some (bif r.all okc then .brk ⟨[.S s], []⟩ else .ret (.B false))
  | [], i, h => by
    refine l22_0 _ _ _ ?_
    have := drop_nil_ge h
    have : ¬ ((i : Int) < (s.length : Int)) := by omega
    simp [this]
  | c :: r, i, h => by
    have k := Cur.of h
    have hl := k.lt
    unfold Sm at hs
    refine l22_0 _ _ _ ?_
    have h1 : ((i : Int) < (s.length : Int)) := by omega
    have h2 : (0 : Int) ≤ (i : Int) := by omega
    have ih := l22 s hs r (i + 1) k.next
    simp only [h1, h2, decide_true, cond_true, Bool.and_self, Int.toNat_natCast, k.getD, Option.bind_some, List.all_cons, w64s (show i < 9223372036854775807 by omega), ih, toB_B]
    show (bif !okc c then _ else _) = _
    cases okc c <;> simp
theorem s22 (s : List UInt8) (hs : Sm s) : Fi K 22 [.S s] = some (.B (user s)) := by
  refine e22 _ ?_
  rw [show (U.I 0) = U.I ((0 : Nat) : Int) from rfl, l22 s hs s 0 rfl]
  unfold user
  cases h : s.all okc <;> simp <;> rfl

/-- who has or is denied something -/
def who (s : List UInt8) : Bool := match s with
  | 35 :: t => user t
  | _ => user s
theorem user_hash (t : List UInt8) : user (35 :: t) = false := by simp [user, okc]
theorem s56 (s p : List UInt8) : Fi K 56 [.S s, .S p] = some (.B (decide (p.length ≤ s.length) && decide (s.take p.length = p))) := by
  refine e56 _ _ ?_
  have h0 : (0 : Int) ≤ (p.length : Int) := by omega
  by_cases h : p.length ≤ s.length
  · have : (p.length : Int) ≤ (s.length : Int) := by omega
    simp [this, h, h0]
  · have : ¬ (p.length : Int) ≤ (s.length : Int) := by omega
    simp [this, h, h0]
def isH (s : List UInt8) : Bool := match s with | 35 :: _ => true | _ => false
theorem isH_no {c : UInt8} {t : List UInt8} (h : c ≠ 35) : isH (c :: t) = false := by unfold isH; split <;> simp_all
theorem s56h (s : List UInt8) : Fi K 56 [.S s, .S [35]] = some (.B (isH s)) := by
  rw [s56]
  congr 2
  match s with
  | [] => rfl
  | c :: t =>
    by_cases h : c = 35
    · subst h; simp [isH]
    · simp [h, isH_no h]
theorem s51 (s : List UInt8) : Fi K 51 [.S s, .S [35]] = some (.S (match s with | 35 :: t => t | _ => s)) := by
  refine e51 _ _ ?_
  rw [s56h]
  match s with
  | [] => rfl
  | c :: t =>
    by_cases h : c = 35
    · subst h
      have : ((1 : Int) ≤ ((t.length + 1 : Nat) : Int)) := by omega
      have : ((1 : Int) ≤ (t.length : Int) + 1) := by omega
      simp [this, isH]
    · have h2 := isH_no (t := t) h
      have h3 : (match (c :: t : List UInt8) with | 35 :: t => t | _ => c :: t) = c :: t := by split <;> simp_all
      simp only [h2, h3]
      rfl
theorem s41 (s : List UInt8) : Fi K 41 [.S s, .S [35]] = some (.S (match s with | 35 :: t => t | _ => s)) := e41 _ _ (by rw [s51]; rfl)
theorem s25 (s : List UInt8) (hs : Sm s) : Fi K 25 [.S s] = some (.B (who s)) := by
  refine e25 _ ?_
  rw [s41]
  simp only [Option.bind_some, toS_S]
  unfold who
  split
  · rename_i t
    rw [s22 t (by unfold Sm at *; simp at hs; omega)]; rfl
  · rw [s22 s hs]; rfl
theorem s17 (s : List UInt8) (hs : Sm s) : Fi K 17 [.S s] = some (.B (who s)) := by
  refine e17 _ ?_
  rw [s14 s hs]
  match s with
  | [] => rfl
  | c :: t =>
    have h1 : ((0 : Int) < ((c :: t).length : Int)) := by simp only [List.length_cons]; omega
    have h2 : ((1 : Int) ≤ ((c :: t).length : Int)) := by simp only [List.length_cons]; omega
    by_cases h : c = 35
    · subst h
      have : Sm t := by unfold Sm at *; simp at hs; omega
      have h3 : ((1 : Int) ≤ (t.length : Int) + 1) := by omega
      simp [h1, h2, user_hash, s14 t this, who, h3]
    · have hn : c.toNat ≠ 35 := fun e => h (UInt8.toNat_inj.1 (by simpa using e))
      have hn' : ¬ ((c.toNat : Int) = 35) := by omega
      have h3 : who (c :: t) = user (c :: t) := by unfold who; split <;> simp_all
      simp only [Option.bind_some, h1, h2, decide_true, Bool.true_or, cond_true, List.getD_cons_zero, hn', decide_false, Bool.and_false, cond_false, Bool.and_true, Int.le_refl, Bool.false_and, Bool.or_false, Bool.not_false, Bool.or_true, toB_B, h3]
end Go.Proofs.Ytegmhhojpngklaa
