/- The laws of grants and groups. -/
import Derived.Test.YtegmhhojpngklaaCPg
namespace Go.Proofs.Ytegmhhojpngklaa
open Go.Ab
set_option linter.unusedVariables false
set_option linter.unusedSimpArgs false

theorem SetOk.none {l : List Gr} {g : Gr} (h : SetOk l g) : SetOk l (g.1, g.2.1, 0) := by
  refine ⟨h.good, h.who, by simp, by simp, ?_⟩
  have e := others (g.1, g.2.1, (0 : Int)) h.good.sorted
  have h2 : (lo (g.1, g.2.1, 0) l ++ hi (g.1, g.2.1, 0) l).length ≤ l.length := by rw [← e]; exact List.length_filter_le ..
  have := h.good.len
  have hm : mid (g.1, g.2.1, (0 : Int)) = [] := rfl
  simp only [setL, hm, List.length_append, List.append_nil] at *
  omega
theorem SetOk.again {l : List Gr} {g g' : Gr} (h : SetOk l g) (k : SetOk l g') (e : same g g') : SetOk (setL l g) g' :=
  ⟨setL_good h, k.who, k.low, k.high, by rw [setL_setL l e]; exact k.len⟩

theorem p5 {u : U} {l : List Gr} (h : GrsOk u l) (g : Gr) (hg : Sm g.1) : Fi K 5 [u, gU g] = some (.B true) := by
  refine e5 _ _ ?_
  obtain ⟨w, w1, w2⟩ := s8 h.is h.short h.all g hg
  by_cases hf : setF l g = (0, 0)
  · have ok := (setF_ok l g).1 hf
    have same0 : same g (g.1, g.2.1, 0) := ⟨rfl, rfl⟩
    have ok0 := ok.none
    have ok1 := ok.again ok ⟨rfl, rfl⟩
    have ok2 := ok.again ok0 same0
    have hw := grsOk_set w2 h.all hg
    rw [setR_ok ok] at hw w2
    obtain ⟨a, a1, a2⟩ := s8 hw.is hw.short hw.all g hg
    obtain ⟨b, b1, b2⟩ := s8 hw.is hw.short hw.all (g.1, g.2.1, 0) hg
    obtain ⟨c, c1, c2⟩ := s8 h.is h.short h.all (g.1, g.2.1, 0) hg
    rw [setR_ok ok1, setL_setL l ⟨rfl, rfl⟩] at a2
    rw [setR_ok ok2, setL_setL l same0] at b2
    rw [setR_ok ok0] at c2
    rw [(setF_ok _ _).2 ok1] at a1
    rw [(setF_ok _ _).2 ok2] at b1
    rw [(setF_ok _ _).2 ok0] at c1
    rw [hf] at w1
    have e1 := s20 w2.is a2.is ok.len
    have e2 := s20 b2.is c2.is ok0.len
    have g0 : U.ofL false [.S g.1, .B g.2.1, .I 0] = gU (g.1, g.2.1, 0) := rfl
    simp only [s11, Option.bind_some, toB_B, Bool.not_true, cond_false, gU0, gU1, gU2, toS_S, toI_I, gU_eta, g0, w1, get_ofL', nth_zero, nth_succ, fU0, decide_true, a1, b1, c1, cond_true, e1, e2, Bool.and_self]
  · have h0 : (setF l g).1 ≠ 0 := fun e => hf (setF_code l g e)
    have hR : setR l g = [] := by unfold setR; rw [decide_eq_false hf]; rfl
    rw [hR] at w2
    have hl := w2.is.len
    simp only [s11, Option.bind_some, toB_B, Bool.not_true, cond_false, gU0, gU1, gU2, toS_S, toI_I, gU_eta, w1, get_ofL', nth_zero, nth_succ, fU0, h0, decide_false, Bool.not_false, cond_true, hl, List.length_nil]
    rfl

set_option maxRecDepth 100000 in
theorem iand' : ∀ a : Fin 64, ∀ b : Fin 64, ibit .and .i64 a.val b.val = ((a.val &&& b.val : Nat) : Int) := by decide +kernel
set_option maxRecDepth 100000 in
theorem inot' : ∀ a : Fin 64, ∀ b : Fin 64, ibit .andNot .i64 a.val b.val = ((a.val &&& (63 ^^^ b.val) : Nat) : Int) := by decide +kernel
set_option maxRecDepth 100000 in
theorem nots' : ∀ d : Fin 64, ∀ n : Fin 64, d.val &&& n.val = n.val → (63 ^^^ d.val) &&& n.val = 0 := by decide +kernel
theorem orr_in (p : Gr → Bool) {l : List Gr} {x : Gr} (hx : x ∈ l) (hp : p x = true) : orr p l &&& x.2.2.toNat = x.2.2.toNat := by
  refine Nat.eq_of_testBit_eq fun b => ?_
  rw [Nat.testBit_and, orr_bit]
  cases hb : x.2.2.toNat.testBit b
  · simp
  · rw [Bool.and_true, List.any_eq_true]
    exact ⟨x, hx, by rw [hp, hb]; rfl⟩
theorem and63 (a b : Nat) (ha : a < 64) : a &&& b < 64 := Nat.lt_of_le_of_lt Nat.and_le_left ha
theorem law_neg {G D n : Nat} (hG : G < 64) (hD : D < 64) (hn : n < 64) (h : D &&& n = n) : ibit .and .i64 (ibit .andNot .i64 (G : Nat) (D : Nat)) (n : Nat) = 0 := by
  rw [inot' ⟨G, hG⟩ ⟨D, hD⟩]
  rw [iand' ⟨_, and63 G (63 ^^^ D) hG⟩ ⟨n, hn⟩, Nat.and_assoc]
  show ((G &&& ((63 ^^^ D) &&& n) : Nat) : Int) = 0
  rw [nots' ⟨D, hD⟩ ⟨n, hn⟩ h, Nat.and_zero]; rfl
theorem law_pos {G D n : Nat} (hG : G < 64) (hD : D < 64) (hn : n < 64) (h : G &&& n = n) : ibit .and .i64 (ibit .andNot .i64 (G : Nat) (D : Nat)) (n : Nat) = ibit .andNot .i64 (n : Nat) (D : Nat) := by
  rw [inot' ⟨G, hG⟩ ⟨D, hD⟩, inot' ⟨n, hn⟩ ⟨D, hD⟩]
  rw [iand' ⟨_, and63 G (63 ^^^ D) hG⟩ ⟨n, hn⟩]
  show (((G &&& (63 ^^^ D)) &&& n : Nat) : Int) = ((n &&& (63 ^^^ D) : Nat) : Int)
  rw [Nat.and_assoc, Nat.and_comm (63 ^^^ D) n, ← Nat.and_assoc, h]

theorem l4 {u w : U} {ps : List Gp} {l : List Gr} (h : GpsOk u ps) (k : Is gU w l) (kl : l.length ≤ 60) (kv : ∀ x ∈ l, 0 ≤ x.2.2 ∧ x.2.2 ≤ 63) (v : List UInt8) (z : Bool) (n m : Int) :
    ∀ r (i d : Nat), l.drop i = r → d < 64 → Lp K 4 0 ⟨[u, .S v, .B z, .I n, w, .I m, .I (d : Nat), .I (i : Nat)], []⟩ = some (.brk ⟨[.B z, .I n, .I m, .I ((d ||| orr (neg ps v) r : Nat))], []⟩)
  | [], i, d, hd, _ => by
    refine l4_0 _ _ _ _ _ _ _ _ ?_
    have := drop_nil_ge hd
    have : ¬ ((i : Int) < (l.length : Int)) := by omega
    simp [this, orr, k.len]
  | x :: r, i, d, hd, hd6 => by
    have c := Cur.of hd
    have hlt := c.lt
    refine l4_0 _ _ _ _ _ _ _ _ ?_
    have h1 : ((i : Int) < (l.length : Int)) := by omega
    have h2 : (0 : Int) ≤ (i : Int) := by omega
    have hx := kv x (List.mem_of_getElem? c.elem)
    have ih := fun d => l4 h k kl kv v z n m r (i + 1) d c.next
    simp only [h1, h2, k.len, decide_true, cond_true, Bool.and_self, Bool.true_or, Int.toNat_natCast, k.get i x c.elem, gU0, gU1, gU2, toS_S, toB_B, toI_I, s21 h.is h.short h.all x.1 v]
    have e2 : orr (neg ps v) (x :: r) = (bif con ps x.1 v && x.2.1 then x.2.2.toNat else 0) ||| orr (neg ps v) r := rfl
    rw [e2]
    have h4 : d ||| x.2.2.toNat < 2 ^ 6 := Nat.or_lt_two_pow hd6 (by omega)
    cases x.2.1
    · simp only [cond_false, Option.bind_some, Bool.false_and, Bool.and_false, loK_some_brk, nth_zero, nth_succ, toS_S, toI_I, toB_B, w64s (show i < 9223372036854775807 by omega), Nat.zero_or]
      exact ih d hd6
    · cases con ps x.1 v
      · simp only [cond_true, cond_false, Option.bind_some, toB_B, Bool.false_and, Bool.and_false, loK_some_brk, nth_zero, nth_succ, toS_S, toI_I, toB_B, w64s (show i < 9223372036854775807 by omega), Nat.zero_or]
        exact ih d hd6
      · simp only [cond_true, Option.bind_some, toB_B, Bool.and_self, loK_some_brk, nth_zero, nth_succ, toS_S, toI_I, ibit_or hd6 hx.1 (by omega), w64s (show i < 9223372036854775807 by omega), ← Nat.or_assoc]
        exact ih _ h4
theorem ofF_ok {ps : List Gp} {l : List Gr} {v : List UInt8} (h : ofF ps l v = (0, 0)) : pfault ps = (0, 0) ∧ Good l ∧ user v = true := by
  unfold ofF at h
  by_cases hp : pfault ps = (0, 0)
  · rw [decide_eq_true hp] at h
    by_cases hg : gfault l = (0, 0)
    · rw [decide_eq_true hg] at h
      cases hu : user v
      · rw [hu] at h; exact absurd (congrArg Prod.fst h) (by decide : ¬ (10 : Int) = 0)
      · exact ⟨hp, (gfault_good l).1 hg, rfl⟩
    · rw [decide_eq_false hg] at h; exact (hg h).elim
  · rw [decide_eq_false hp] at h; exact (hp h).elim
theorem ofF_code {ps : List Gp} {l : List Gr} {v : List UInt8} (h : (ofF ps l v).1 = 0) : ofF ps l v = (0, 0) := by
  revert h
  unfold ofF
  by_cases hp : pfault ps = (0, 0)
  · rw [decide_eq_true hp]
    by_cases hg : gfault l = (0, 0)
    · rw [decide_eq_true hg]
      cases user v
      · intro h; exact absurd h (by decide : ¬ (10 : Int) = 0)
      · intro _; rfl
    · rw [decide_eq_false hg]; exact gfault_code l
  · rw [decide_eq_false hp]; exact pfault_code ps
theorem con_self (ps : List Gp) (v : List UInt8) : con ps v v = true := by unfold con; simp

theorem p4 {u w : U} {ps : List Gp} {l : List Gr} (h : GpsOk u ps) (k : GrsOk w l) (v : List UInt8) (hv : Sm v) (z : Bool) (n : Int) : Fi K 4 [u, w, .S v, .B z, .I n] = some (.B true) := by
  refine e4 _ _ _ _ _ ?_
  obtain ⟨a, a1, a2⟩ := s8 k.is k.short k.all (v, z, n) hv
  have ha := grsOk_set a2 k.all hv
  have e7 := s7 h ha v hv
  have g0 : U.ofL false [.S v, .B z, .I n] = gU (v, z, n) := rfl
  by_cases hf : setF l (v, z, n) = (0, 0)
  · by_cases hf7 : ofF ps (setR l (v, z, n)) v = (0, 0)
    · have ok := (setF_ok _ _).1 hf
      have hN : ofN ps (setR l (v, z, n)) v = sum ps v (setR l (v, z, n)) := by unfold ofN; rw [hf7]; rfl
      rw [hf] at a1
      rw [hf7, hN] at e7
      rw [setR_ok ok] at e7 ha
      have good := setL_good ok
      have lp := l4 h ha.is.is good.len good.rights v z n (sum ps v (setL l (v, z, n))) (setL l (v, z, n)) 0 0 rfl (by decide)
      rw [Nat.zero_or, show U.I ((0 : Nat) : Int) = U.I 0 from rfl] at lp
      simp only [s11, Option.bind_some, toB_B, Bool.not_true, cond_false, g0, a1, get_ofL', nth_zero, nth_succ, fU0, toI_I, decide_true, e7, Bool.or_self, lp, loK_some_brk]
      have hG := orr_lt (pos ps v) (setL l (v, z, n)) fun x hx => (good.rights x hx).2
      have hD := orr_lt (neg ps v) (setL l (v, z, n)) fun x hx => (good.rights x hx).2
      have low : 0 ≤ n := ok.low
      have high : n ≤ 63 := ok.high
      have hn : ((n.toNat : Nat) : Int) = n := by omega
      have mem : n.toNat = 0 ∨ (v, z, n) ∈ setL l (v, z, n) := by
        by_cases h0 : n = 0
        · exact .inl (by omega)
        · refine .inr ?_
          unfold setL mid
          rw [decide_eq_false (show ¬ ((v, z, n) : Gr).2.2 = 0 from h0)]
          simp
      cases z
      · have hsub : orr (pos ps v) (setL l (v, false, n)) &&& n.toNat = n.toNat := by
          rcases mem with h0 | h0
          · rw [h0, Nat.and_zero]
          · exact orr_in (pos ps v) h0 (by unfold pos; rw [con_self]; rfl)
        have e := law_pos hG hD (by omega) hsub
        rw [hn] at e
        unfold sum
        simp only [cond_false, e, decide_true]
      · have hsub : orr (neg ps v) (setL l (v, true, n)) &&& n.toNat = n.toNat := by
          rcases mem with h0 | h0
          · rw [h0, Nat.and_zero]
          · exact orr_in (neg ps v) h0 (by unfold neg; rw [con_self]; rfl)
        have e := law_neg hG hD (by omega) hsub
        rw [hn] at e
        unfold sum
        simp only [cond_true, e, decide_true]
    · have h0 : (ofF ps (setR l (v, z, n)) v).1 ≠ 0 := fun e => hf7 (ofF_code e)
      simp only [s11, Option.bind_some, toB_B, Bool.not_true, cond_false, g0, a1, get_ofL', nth_zero, nth_succ, fU0, toI_I, e7, h0, decide_false, Bool.not_false, Bool.or_true, cond_true]
  · have h0 : (setF l (v, z, n)).1 ≠ 0 := fun e => hf (setF_code _ _ e)
    simp only [s11, Option.bind_some, toB_B, Bool.not_true, cond_false, g0, a1, get_ofL', nth_zero, nth_succ, fU0, toI_I, e7, h0, decide_false, Bool.not_false, Bool.true_or, cond_true]

theorem orr_append (p : Gr → Bool) : ∀ a b : List Gr, orr p (a ++ b) = orr p a ||| orr p b
  | [], b => by simp [orr]
  | x :: a, b => by simp only [List.cons_append, orr, orr_append p a b, Nat.or_assoc]
theorem orr_filter (p q : Gr → Bool) : ∀ l : List Gr, (∀ x ∈ l, q x = false → p x = false) → orr p (l.filter q) = orr p l
  | [], _ => rfl
  | x :: r, h => by
    have ih := orr_filter p q r fun y hy => h y (List.mem_cons_of_mem _ hy)
    rw [List.filter_cons]
    cases hq : q x
    · have := h x (List.mem_cons_self ..) hq
      simp [orr, this, ih]
    · simp [orr, ih]
theorem orr_set (p : Gr → Bool) (g : Gr) (hp : ∀ x : Gr, x.1 = g.1 → p x = false) {l : List Gr} (h : Sorted l) : orr p (setL l g) = orr p l := by
  have e := orr_filter p (fun x => !decide (cmp x g = 0)) l fun x _ hq => hp x (by simp at hq; exact ((cmp_zero x g).1 hq).1)
  rw [others g h] at e
  have hm : orr p (mid g) = 0 := by
    unfold mid
    cases decide (g.2.2 = 0)
    · simp [orr, hp g rfl]
    · rfl
  unfold setL
  rw [orr_append, orr_append, hm, Nat.or_zero, ← orr_append, e]
theorem sum_set (ps : List Gp) (o : List UInt8) (g : Gr) (hc : con ps g.1 o = false) {l : List Gr} (h : Sorted l) : sum ps o (setL l g) = sum ps o l := by
  unfold sum
  rw [orr_set (pos ps o) g (fun x hx => by unfold pos; rw [hx, hc]; rfl) h, orr_set (neg ps o) g (fun x hx => by unfold neg; rw [hx, hc]; rfl) h]

theorem p6 {u w : U} {ps : List Gp} {l : List Gr} (h : GpsOk u ps) (k : GrsOk w l) (v o : List UInt8) (hv : Sm v) (ho : Sm o) (n : Int) : Fi K 6 [u, w, .S v, .S o, .I n] = some (.B true) := by
  refine e6 _ _ _ _ _ ?_
  simp only [s11, Option.bind_some, toB_B, Bool.not_true, cond_false]
  by_cases hvo : v = o
  · simp only [hvo, decide_true, Bool.true_or, cond_true]
  · by_cases hva : v = [97, 110, 121, 111, 110, 101]
    · simp only [hva, decide_true, Bool.or_true, cond_true]
    · simp only [hvo, hva, decide_false, Bool.or_self, cond_false]
      obtain ⟨a, a1, a2⟩ := s8 k.is k.short k.all (v, false, n) hv
      have ha := grsOk_set a2 k.all hv
      have e7 := s7 h k o ho
      have e7' := s7 h ha o ho
      have g0 : U.ofL false [.S v, .B false, .I n] = gU (v, false, n) := rfl
      by_cases hf : setF l (v, false, n) = (0, 0)
      · by_cases hf1 : ofF ps l o = (0, 0)
        · by_cases hf2 : ofF ps (setR l (v, false, n)) o = (0, 0)
          · have ok := (setF_ok _ _).1 hf
            have hN : ofN ps l o = sum ps o l := by unfold ofN; rw [hf1]; rfl
            have hN' : ofN ps (setR l (v, false, n)) o = sum ps o (setR l (v, false, n)) := by unfold ofN; rw [hf2]; rfl
            rw [hf] at a1
            rw [hf1, hN] at e7
            rw [hf2, hN', setR_ok ok] at e7'
            have key : con ps v o = false → sum ps o (setL l (v, false, n)) = sum ps o l := fun hc => sum_set ps o (v, false, n) hc ok.good.sorted
            have e21 := s21 h.is h.short h.all v o
            simp only [g0, a1, Option.bind_some, get_ofL', nth_zero, nth_succ, fU0, toI_I, e7, e7', decide_true, Bool.not_true, Bool.or_self, cond_false]
            by_cases hl : (0 : Int) < (v.length : Int)
            · simp only [hl, decide_true, Bool.true_or, Bool.true_and, cond_true]
              by_cases h35 : (((v.getD 0 0).toNat : Nat) : Int) = 35
              · simp only [h35, decide_true, cond_true, e21, Option.bind_some, toB_B]
                cases hc : con ps v o
                · simp only [key hc, Bool.not_false, decide_true, Bool.and_self, Bool.not_true, cond_false, Option.bind_some, Bool.true_or]
                · simp only [Bool.not_true, Bool.false_and, Bool.not_false, cond_true, Option.bind_some, toB_B, Bool.or_true]
              · have hc : con ps v o = false := by
                  unfold con
                  have : ps.any (fun g => decide (35 :: g.1 = v) && isIn o g) = false := by
                    rw [List.any_eq_false]
                    intro g _ e
                    simp only [Bool.and_eq_true, decide_eq_true_eq] at e
                    rw [← e.1] at h35
                    exact h35 rfl
                  rw [this, decide_eq_false hvo, decide_eq_false (show ¬ v = anyone from hva)]; rfl
                simp only [h35, decide_false, cond_false, key hc, decide_true]
            · simp only [hl, decide_false, Bool.not_false, Bool.or_true, cond_true, Bool.false_and, cond_false]
              have hc : con ps v o = false := by
                have hv0 : v = [] := List.eq_nil_of_length_eq_zero (by omega)
                unfold con
                have : ps.any (fun g => decide (35 :: g.1 = v) && isIn o g) = false := by
                  rw [List.any_eq_false]
                  intro g _
                  rw [hv0]; simp
                rw [this, decide_eq_false hvo, decide_eq_false (show ¬ v = anyone from hva)]; rfl
              simp only [key hc, decide_true]
          · have h0 : (ofF ps (setR l (v, false, n)) o).1 ≠ 0 := fun e => hf2 (ofF_code e)
            simp only [g0, a1, Option.bind_some, get_ofL', nth_zero, nth_succ, fU0, toI_I, e7, e7', h0, decide_false, Bool.not_false, Bool.or_true, cond_true]
        · have h0 : (ofF ps l o).1 ≠ 0 := fun e => hf1 (ofF_code e)
          simp only [g0, a1, Option.bind_some, get_ofL', nth_zero, nth_succ, fU0, toI_I, e7, e7', h0, decide_false, Bool.not_false, Bool.or_true, Bool.true_or, cond_true]
      · have h0 : (setF l (v, false, n)).1 ≠ 0 := fun e => hf (setF_code _ _ e)
        simp only [g0, a1, Option.bind_some, get_ofL', nth_zero, nth_succ, fU0, toI_I, e7, e7', h0, decide_false, Bool.not_false, Bool.true_or, cond_true]
end Go.Proofs.Ytegmhhojpngklaa
