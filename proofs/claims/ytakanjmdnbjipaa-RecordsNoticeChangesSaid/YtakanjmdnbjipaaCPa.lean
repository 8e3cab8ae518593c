/- Bytes, checksums, numbers. -/
import Derived.Test.YtakanjmdnbjipaaAbLaw
import Derived.Test.YtakanjmdnbjipaaCEq
set_option linter.unusedVariables false
set_option linter.unusedSimpArgs false
namespace Go.Proofs.Ytakanjmdnbjipaa
open Go.Ab
set_option linter.unusedVariables false
set_option linter.unusedSimpArgs false

abbrev Bs := List UInt8
def bU (c : UInt8) : U := .I c.toNat
theorem get_b {u : U} {l : Bs} (h : Is bU u l) {i : Nat} (hi : i < l.length) : (u.get i).toI = ((l.getD i 0).toNat : Int) := by
  rw [h.get i _ (List.getElem?_eq_getElem hi)]
  simp [bU, List.getD, hi]
theorem sub_b {u : U} {l : Bs} (h : Is bU u l) {a b : Nat} (hb : b ≤ l.length) : Is bU (u.sub a b) ((l.take b).drop a) := by
  refine ⟨?_, fun i x hx => ?_⟩
  · simp [U.sub, U.len]; omega
  · show u.get (a + i) = bU x
    rw [List.getElem?_drop, List.getElem?_take] at hx
    split at hx
    · exact h.get _ _ hx
    · cases hx
theorem bytes_map (l : Bs) : U.bytes (l.map bU) = l := by
  unfold U.bytes
  rw [List.map_map]
  conv => rhs; rw [← List.map_id l]
  apply List.map_congr_left
  intro c _
  show (Int.toNat (c.toNat : Int)).toUInt8 = c
  simp
theorem bytes_b {u : U} {l : Bs} (h : Is bU u l) : U.bytes u.toL = l := by rw [h.toL, bytes_map]
theorem getD_lt (l : Bs) (i : Nat) : l.getD i 0 < 256 ∨ True := .inr trivial
theorem b_lt (c : UInt8) : c.toNat < 256 := c.toNat_lt

/-! checksums -/
def hstep (h : BitVec 64) (c : UInt8) : BitVec 64 := (h ^^^ BitVec.ofNat 64 c.toNat) * 1099511628211#64
def hfold (h : BitVec 64) (l : Bs) : BitVec 64 := l.foldl hstep h
def hfin (h : BitVec 64) : BitVec 64 := h ^^^ (h >>> 32)
def h0 : BitVec 64 := 14695981039346656037#64
def sum (l : Bs) : Nat := (hfin (hfold h0 l)).toNat
theorem wu64 {n : Nat} (h : n < 18446744073709551616) : IntKind.wrap .u64 (n : Int) = n := by
  simp [IntKind.wrap, IntKind.signed, IntKind.bits]; omega
theorem xor64 (h g : BitVec 64) : ibit .xor .u64 (h.toNat : Int) (g.toNat : Int) = ((h ^^^ g).toNat : Int) := by
  have e1 : BitVec.ofInt 64 (h.toNat : Int) = h := by simp
  have e2 : BitVec.ofInt 64 (g.toNat : Int) = g := by simp
  show IntKind.wrap .u64 (BitVec.ofInt 64 (h.toNat : Int) ^^^ BitVec.ofInt 64 (g.toNat : Int)).toNat = _
  rw [e1, e2]
  exact wu64 (h ^^^ g).isLt
theorem mul64 (h : BitVec 64) : IntKind.wrap .u64 ((h.toNat : Int) * 1099511628211) = ((h * 1099511628211#64).toNat : Int) := by
  rw [BitVec.toNat_mul]
  simp [IntKind.wrap, IntKind.signed, IntKind.bits]
theorem step64 (h : BitVec 64) (c : UInt8) : IntKind.wrap .u64 ((ibit .xor .u64 (h.toNat : Int) (IntKind.wrap .u64 (c.toNat : Int))) * 1099511628211) = ((hstep h c).toNat : Int) := by
  have hc := c.toNat_lt
  rw [wu64 (by omega)]
  have : (c.toNat : Int) = ((BitVec.ofNat 64 c.toNat).toNat : Int) := by
    rw [BitVec.toNat_ofNat, Nat.mod_eq_of_lt (by omega)]
  rw [this, xor64, mul64]
  rfl
theorem fin64 (h : BitVec 64) : ibit .xor .u64 (h.toNat : Int) (Int.fdiv (h.toNat : Int) 4294967296) = ((hfin h).toNat : Int) := by
  have : Int.fdiv (h.toNat : Int) 4294967296 = (((h >>> 32).toNat : Nat) : Int) := by
    rw [BitVec.toNat_ushiftRight, Nat.shiftRight_eq_div_pow, Int.fdiv_eq_ediv_of_nonneg _ (by omega)]
    omega
  rw [this, xor64]
  rfl
theorem fin64' (h : BitVec 64) : ibit .xor .u64 (h.toNat : Int) (IntKind.wrap .u64 (Int.tdiv (h.toNat : Int) 4294967296)) = ((hfin h).toNat : Int) := by
  have : Int.tdiv (h.toNat : Int) 4294967296 = (((h >>> 32).toNat : Nat) : Int) := by
    rw [BitVec.toNat_ushiftRight, Nat.shiftRight_eq_div_pow, Int.tdiv_eq_ediv_of_nonneg (by omega)]
    omega
  rw [this, wu64 (h >>> 32).isLt, xor64]
  rfl
theorem l11 {u : U} {l : Bs} (hu : Is bU u l) (hl : l.length < 9223372036854775807) : ∀ r i (h : BitVec 64), l.drop i = r → Lp K 11 0 ⟨[.I (h.toNat : Nat), u, .I (l.length : Nat), .I (i : Nat)], []⟩ = some (.brk ⟨[.I ((hfold h r).toNat : Nat)], []⟩)
  | [], i, h, e => by
    refine l11_0 _ _ _ _ ?_
    have := drop_nil_ge e
    have h1 : ¬ ((i : Int) < (l.length : Int)) := by omega
    simp [h1, hfold]
  | c :: r, i, h, e => by
    have k := Cur.of e
    have hlt := k.lt
    refine l11_0 _ _ _ _ ?_
    have h1 : ((i : Int) < (l.length : Int)) := by omega
    have h2 : (0 : Int) ≤ (i : Int) := by omega
    have hg := get_b hu hlt
    rw [k.getD] at hg
    have ih := l11 hu hl r (i + 1) (hstep h c) k.next
    rw [w64s (by omega)]
    simp only [h1, h2, decide_true, cond_true, Bool.and_self, Int.toNat_natCast, hu.len, hg, step64, ih]
    rfl
theorem s11 {u : U} {l : Bs} (hu : Is bU u l) (hl : l.length < 9223372036854775807) : Fi K 11 [u] = some (.I (sum l : Nat)) := by
  refine e11 _ ?_
  have := l11 hu hl l 0 h0 rfl
  rw [hu.len, show (U.I 14695981039346656037) = U.I ((h0.toNat : Nat) : Int) from rfl, show (U.I 0) = U.I ((0 : Nat) : Int) from rfl, this]
  simp only [loK_some_brk, nth_zero, toI_I, fin64]
  rfl
theorem l12 {u : U} {l : Bs} (hu : Is bU u l) (hl : l.length < 9223372036854775807) : ∀ r i (h : BitVec 64), l.drop i = r → Lp K 12 0 ⟨[u, .I (h.toNat : Nat), .I (i : Nat)], []⟩ = some (.brk ⟨[.I ((hfold h r).toNat : Nat)], []⟩)
  | [], i, h, e => by
    refine l12_0 _ _ _ ?_
    have := drop_nil_ge e
    have h1 : ¬ ((i : Int) < (l.length : Int)) := by omega
    simp [h1, hfold, hu.len]
  | c :: r, i, h, e => by
    have k := Cur.of e
    have hlt := k.lt
    refine l12_0 _ _ _ ?_
    have h1 : ((i : Int) < (l.length : Int)) := by omega
    have h2 : (0 : Int) ≤ (i : Int) := by omega
    have hg := get_b hu hlt
    rw [k.getD] at hg
    have ih := l12 hu hl r (i + 1) (hstep h c) k.next
    rw [w64s (by omega)]
    simp only [h1, h2, decide_true, cond_true, Bool.and_self, Int.toNat_natCast, hu.len, hg, step64, ih]
    rfl
theorem s12 {u : U} {l : Bs} (hu : Is bU u l) (hl : l.length < 9223372036854775807) : Fi K 12 [u] = some (.I (sum l : Nat)) := by
  refine e12 _ ?_
  have := l12 hu hl l 0 h0 rfl
  rw [show (U.I 14695981039346656037) = U.I ((h0.toNat : Nat) : Int) from rfl, show (U.I 0) = U.I ((0 : Nat) : Int) from rfl, this]
  simp only [loK_some_brk, nth_zero, toI_I, fin64']
  rfl
theorem sum_lt (l : Bs) : sum l < 18446744073709551616 := (hfin (hfold h0 l)).isLt
/-! a changed byte shows -/
theorem hstep_inj {h g : BitVec 64} {c : UInt8} (e : hstep h c = hstep g c) : h = g := by
  have hq : (1099511628211#64) * (14886173955864302971#64) = 1#64 := by decide
  have : ∀ a b : BitVec 64, a * 1099511628211#64 = b * 1099511628211#64 → a = b := by
    intro a b hab
    have := congrArg (· * 14886173955864302971#64) hab
    simpa only [BitVec.mul_assoc, hq, BitVec.mul_one] using this
  have h1 := this _ _ e
  have h2 := congrArg (· ^^^ BitVec.ofNat 64 c.toNat) h1
  simpa [BitVec.xor_assoc] using h2
theorem hstep_inj2 {h : BitVec 64} {c d : UInt8} (e : hstep h c = hstep h d) : c = d := by
  have hq : (1099511628211#64) * (14886173955864302971#64) = 1#64 := by decide
  have : ∀ a b : BitVec 64, a * 1099511628211#64 = b * 1099511628211#64 → a = b := by
    intro a b hab
    have := congrArg (· * 14886173955864302971#64) hab
    simpa only [BitVec.mul_assoc, hq, BitVec.mul_one] using this
  have h1 := this _ _ e
  have h2 := congrArg (h ^^^ ·) h1
  have h3 : BitVec.ofNat 64 c.toNat = BitVec.ofNat 64 d.toNat := by simpa [← BitVec.xor_assoc] using h2
  have h4 := congrArg BitVec.toNat h3
  have hc := c.toNat_lt
  have hd := d.toNat_lt
  rw [BitVec.toNat_ofNat, BitVec.toNat_ofNat, Nat.mod_eq_of_lt (by omega), Nat.mod_eq_of_lt (by omega)] at h4
  exact UInt8.toNat_inj.1 h4
theorem hfold_inj : ∀ (l : Bs) {h g : BitVec 64}, hfold h l = hfold g l → h = g
  | [], _, _, e => e
  | c :: l, _, _, e => hstep_inj (hfold_inj l e)
theorem hfin_inj {h g : BitVec 64} (e : hfin h = hfin g) : h = g := by
  have inv : ∀ h : BitVec 64, hfin (hfin h) = h := by
    intro h
    have hz : h >>> 32 >>> 32 = 0#64 := by
      apply BitVec.eq_of_toNat_eq
      have := h.isLt
      simp [BitVec.toNat_ushiftRight, Nat.shiftRight_eq_div_pow]
      omega
    unfold hfin
    rw [BitVec.ushiftRight_xor_distrib, hz]
    simp [BitVec.xor_assoc]
  rw [← inv h, ← inv g, e]
theorem sum_changed (a b : Bs) (c d : UInt8) (h : c ≠ d) : sum (a ++ c :: b) ≠ sum (a ++ d :: b) := by
  intro e
  have e1 : hfold h0 (a ++ c :: b) = hfold h0 (a ++ d :: b) := hfin_inj (BitVec.eq_of_toNat_eq e)
  unfold hfold at e1
  rw [List.foldl_append, List.foldl_append, List.foldl_cons, List.foldl_cons] at e1
  exact h (hstep_inj2 (hfold_inj b e1))
end Go.Proofs.Ytakanjmdnbjipaa
