/- Slices: what they hold, parts of them. -/
import Derived.Test.YtegmhhojpngklaaAbOps6
import Derived.Laws.BytesArg
namespace Go.Ab
open Go.RowKit
variable {C : Ctx} {P : Program}

theorem nth_get : ∀ (xs : List U) (i : Nat), U.nth xs i = (xs[i]?).getD (.I 0)
  | [], i => by simp [U.nth]
  | x :: xs, 0 => by simp [U.nth]
  | x :: xs, i + 1 => by simp [U.nth, nth_get xs i]
theorem nth_drop_take (xs : List U) (o n i : Nat) (h : i < n) : U.nth ((xs.drop o).take n) i = U.nth xs (o + i) := by
  rw [nth_get, nth_get, List.getElem?_take_of_lt h, List.getElem?_drop]
theorem len_ofL (b : Bool) (xs : List U) : (U.ofL b xs).len = xs.length := rfl
theorem get_ofL (b : Bool) (xs : List U) (i : Nat) : (U.ofL b xs).get i = U.nth xs i := rfl
theorem nil_ofL (b : Bool) (xs : List U) : (U.ofL b xs).isNil = b := rfl

/-- a slice: its cells in one view, what they mean in another -/
def RepSl2 (C : Ctx) (H V : View) (e : Nat) (u : U) (v : Value) : Prop :=
  (u.len = 0 ∧ u.isNil = true ∧ v = .slice none 0 0) ∨
  ∃ (a : Addr) (cap : Nat) (cs : Nat → List Value), v = .slice (some a) u.len cap ∧ u.isNil = false ∧ u.len ≤ cap ∧
    (∀ i, i < u.len → At V (a.add (i * C.sz e)) (cs i)) ∧ ∀ i, i < u.len → Rep C H e (cs i) (u.get i)
theorem RepSl2.one {H V : View} (hH : H.le V) {e : Nat} {u : U} {v : Value} (h : RepSl2 C H V e u v) : RepSl C V e u v := by
  rcases h with h | ⟨a, cap, cs, h1, h2, h3, h4, h5⟩
  · exact .inl h
  · exact .inr ⟨a, cap, cs, h1, h2, h3, h4, fun i hi => (h5 i hi).mono hH⟩
theorem RepSl.two {H V : View} (hH : H.le V) {e : Nat} {u : U} {v : Value} (h : RepSl C H e u v) : RepSl2 C H V e u v := by
  rcases h with h | ⟨a, cap, cs, h1, h2, h3, h4, h5⟩
  · exact .inl h
  · exact .inr ⟨a, cap, cs, h1, h2, h3, fun i hi => (h4 i hi).mono hH, h5⟩
/-- an own slice reads as a slice -/
theorem ow_repSl2 {H V : View} {ι : Own} {sto : Sto} {w : World} {id e : Nat} {z : Bool} {xs : List U} (hb : BlkOk C H ι sto w id) (hs : sto id = some (.arr e z xs))
    (hV : ∀ b o v, blkOf (ι id) = some b → w.cell? ⟨b, o, none⟩ = some v → V b o = some v)
    {r : Option (Nat × Nat)} {v : Value} (h : RepOw C ι sto id r v) : RepSl2 C H V e (owU z xs r) v := by
  obtain ⟨cs, k1, k2, k3, k4⟩ := hb.arr hs
  unfold RepOw at h
  rw [hs] at h
  have hat : ∀ {g cap : Nat}, ι id = .slice (some ⟨g, 0, none⟩) xs.length cap → ∀ i, At V ⟨g, i * C.sz e, none⟩ (chunk cs (C.sz e) i) := by
    intro g cap hi i
    rw [hi] at k1
    refine ⟨fun _ => rfl, fun j v hv => ?_⟩
    have := own_at k1 i j v hv
    rw [add_eq] at this
    exact hV _ _ _ (by rw [hi]; rfl) this
  have hcap : ∀ {g cap : Nat}, ι id = .slice (some ⟨g, 0, none⟩) xs.length cap → xs.length ≤ cap := by
    intro g cap hi
    rcases k1.2 with ⟨h1, _⟩ | ⟨g', cap', cur, h1, _, _, h2, _⟩
    · rw [hi] at h1; cases h1
    · rw [hi] at h1; cases h1; exact h2
  have hnn : ∀ {g cap : Nat}, ι id = .slice (some ⟨g, 0, none⟩) xs.length cap → (z && xs.isEmpty) = false := by
    intro g cap hi
    have : ¬ (z = true ∧ xs = []) := fun h => by rw [k3.2 h] at hi; cases hi
    cases z <;> cases xs <;> simp_all
  cases r with
  | none =>
    simp only at h
    subst h
    rcases own_slice k1 with ⟨h1, h2⟩ | ⟨g, cap, h1⟩
    · obtain ⟨rfl, rfl⟩ := k3.1 h1
      exact .inl ⟨rfl, rfl, h1⟩
    · refine .inr ⟨⟨g, 0, none⟩, cap, fun i => chunk cs (C.sz e) i, by simpa [owU, prt, len_ofL] using h1, hnn h1, hcap h1, ?_, ?_⟩
      · intro i hi
        rw [add_eq]; simpa using hat h1 i
      · intro i hi
        exact k2 i hi
  | some p =>
    obtain ⟨o, n⟩ := p
    simp only at h
    obtain ⟨h0, h⟩ := h
    have hlen : (owU z xs (some (o, n))).len = n := by simp [owU, prt, len_ofL]; omega
    rcases h with ⟨h1, rfl, rfl⟩ | ⟨g, cap, a, h1, rfl, h3, h4, h5⟩
    · obtain ⟨rfl, rfl⟩ := k3.1 h1
      exact .inl ⟨by rw [hlen], rfl, rfl⟩
    · refine .inr ⟨a, cap - o, fun i => chunk cs (C.sz e) (o + i), by rw [hlen], by simpa [owU, nil_ofL] using hnn h1, by rw [hlen]; have := hcap h1; omega, ?_, ?_⟩
      · intro i hi
        rw [hlen] at hi
        rcases h5 with h5 | h5
        · obtain ⟨b, of, sp⟩ := a
          simp at h3 h4 h5
          subst h3; subst h4; subst h5
          rw [add_eq, ← Nat.add_mul]
          exact hat h1 (o + i)
        · omega
      · intro i hi
        rw [hlen] at hi
        have : (owU z xs (some (o, n))).get i = U.nth xs (o + i) := by
          simp only [owU, prt, get_ofL]
          exact nth_drop_take xs o n i hi
        rw [this]
        exact k2 (o + i) (by omega)

theorem ow_repSlV {H V : View} {ι : Own} {sto : Sto} {w : World} (hH : H.le V) {id e : Nat} {z : Bool} {xs : List U} (hb : BlkOk C H ι sto w id) (hs : sto id = some (.arr e z xs))
    (hV : ∀ b o v, blkOf (ι id) = some b → w.cell? ⟨b, o, none⟩ = some v → V b o = some v)
    {r : Option (Nat × Nat)} {v : Value} (h : RepOw C ι sto id r v) : RepSl C V e (owU z xs r) v := (ow_repSl2 hb hs hV h).one hH
theorem ow_repSl {H : View} {ι : Own} {sto : Sto} {w : World} (hH : H.le (World.view w)) {id e : Nat} {z : Bool} {xs : List U} (hb : BlkOk C H ι sto w id) (hs : sto id = some (.arr e z xs))
    {r : Option (Nat × Nat)} {v : Value} (h : RepOw C ι sto id r v) : RepSl C (World.view w) e (owU z xs r) v := ow_repSlV hH hb hs (fun _ _ _ _ h => h) h

theorem RepSl.spot (ok : CtxOk P C) {H V : View} {e : Nat} {u : U} {a : Addr} {cap : Nat} {cs : Nat → List Value} (h : ∀ i, i < u.len → At V (a.add (i * C.sz e)) (cs i)) (hr : ∀ i, i < u.len → Rep C H e (cs i) (u.get i)) (h0 : 0 < u.len) : a.spot = none := by
  have h1 := h 0 h0
  have h2 := (hr 0 h0).length ok
  obtain ⟨ty, ht⟩ := (hr 0 h0).te
  have := ok.szpos ht
  have h3 := h1.1 (by intro e; rw [e] at h2; simp at h2; omega)
  simpa [Addr.add] using h3

/-- a part of a slice -/
theorem RepSl.sub (ok : CtxOk P C) {H : View} {e : Nat} {u : U} {v : Value} (r : RepSl C H e u v) {lo hi : Nat} (h1 : lo ≤ hi) (h2 : hi ≤ u.len) :
    ∃ (a : Option Addr) (cap : Nat), v = .slice a u.len cap ∧ u.len ≤ cap ∧ RepSl C H e (u.sub lo hi) (.slice (if cap = lo then a else a.map (·.add (lo * C.sz e))) (hi - lo) (cap - lo)) := by
  rcases r with ⟨k1, k2, rfl⟩ | ⟨a, cap, cs, rfl, k2, k3, k4, k5⟩
  · refine ⟨none, 0, by rw [k1], by omega, ?_⟩
    obtain rfl : hi = 0 := by omega
    obtain rfl : lo = 0 := by omega
    exact .inl ⟨rfl, k2, by simp⟩
  · refine ⟨some a, cap, rfl, k3, ?_⟩
    by_cases hc : cap = lo
    · have e0 : hi - lo = 0 := by omega
      refine .inr ⟨a, cap - lo, fun i => cs i, by simp [hc, U.sub, U.len], k2, by simp [U.sub, U.len]; omega, fun i hi' => ?_, fun i hi' => ?_⟩
      · simp [U.sub, U.len] at hi'; omega
      · simp [U.sub, U.len] at hi'; omega
    · refine .inr ⟨a.add (lo * C.sz e), cap - lo, fun i => cs (lo + i), by simp [hc, U.sub, U.len], k2, by simp [U.sub, U.len]; omega, fun i hi' => ?_, fun i hi' => ?_⟩
      · simp [U.sub, U.len] at hi'
        have hsp := RepSl.spot ok (cap := cap) k4 k5 (by omega)
        rw [add_add a hsp, ← Nat.add_mul]
        exact k4 (lo + i) (by omega)
      · simp [U.sub, U.len] at hi'
        exact k5 (lo + i) (by omega)

def vOpt (a : Act) (o : Option Operand) : Option Value := o.map a.eval
theorem run_bound {k : IntKind} {n : Int} {y : Nat} {c : BoundsCode} (h0 : 0 ≤ n) (h1 : n ≤ y) (w : World) : (Instr.sliceBound (.int k n) y c).run P w = .ok n.toNat w := by
  simp [Instr.sliceBound, asIntOf, h0, h1]
theorem optI_some {H : View} {ι : Own} {sto : Sto} {tm : Nat → Value} {a : Act} {ev : Operand → AV} (hev : ∀ x, RepS C H ι sto tm (ev x) (a.eval x)) {o : Option Operand} {l : Option Int} (h : optI ev o = some l) :
    (l = none ∧ o.map a.eval = none) ∨ ∃ k n, l = some n ∧ o.map a.eval = some (.int k n) := by
  cases o with
  | none => simp [optI] at h; exact .inl ⟨h.symm, rfl⟩
  | some o =>
    simp only [optI] at h
    split at h
    · rename_i k n he
      cases h
      have := hev o
      rw [he] at this
      exact .inr ⟨k, n, rfl, by simp; exact this⟩
    · cases h
theorem run_bounds {isS : Bool} {len cap : Nat} {l h : Option Int} {vl vh : Option Value} (hl : (l = none ∧ vl = none) ∨ ∃ k n, l = some n ∧ vl = some (.int k n)) (hh : (h = none ∧ vh = none) ∨ ∃ k n, h = some n ∧ vh = some (.int k n))
    (hc : len ≤ cap) (h0 : 0 ≤ l.getD 0) (h1 : l.getD 0 ≤ h.getD len) (h2 : h.getD len ≤ len) (w : World) :
    (Instr.sliceBounds isS len cap vl vh none).run P w = .ok ((l.getD 0).toNat, (h.getD len).toNat, cap) w := by
  unfold Instr.sliceBounds
  rcases hh with ⟨rfl, rfl⟩ | ⟨k, n, rfl, rfl⟩
  · simp only [Option.getD_none] at h1 h2 ⊢
    rcases hl with ⟨rfl, rfl⟩ | ⟨k, n, rfl, rfl⟩
    · simp
    · simp only [Option.getD_some] at h0 h1 ⊢
      simp only [Sem.run_bind, Sem.run_pure, Result.andThen_ok, run_bound h0 h1]
      simp
  · simp only [Option.getD_some] at h1 h2 ⊢
    have hn : n ≤ cap := by omega
    rcases hl with ⟨rfl, rfl⟩ | ⟨k', n', rfl, rfl⟩
    · simp only [Option.getD_none] at h1
      simp only [Sem.run_bind, Sem.run_pure, Result.andThen_ok, run_bound (show 0 ≤ n by omega) hn]
      simp
    · simp only [Option.getD_some] at h0 h1 ⊢
      simp only [Sem.run_bind, Sem.run_pure, Result.andThen_ok, run_bound (show 0 ≤ n by omega) hn, run_bound h0 (show n' ≤ n.toNat by omega)]

end Go.Ab
