/- Create, Delete, Rename: what they answer. -/
import Derived.Test.YtnahhhaicalmcaaDoorCPd
set_option linter.unusedVariables false
set_option linter.unusedSimpArgs false
section
namespace Go.Proofs.YtnahhhaicalmcaaDoor
open Go.Ab
set_option linter.unusedVariables false
set_option linter.unusedSimpArgs false
set_option maxRecDepth 100000

/-- an error and no list -/
def bad (c d : Int) : U := .ofL false [U.nil, .ofL false [.I c, .I d]]
/-- a list and no error -/
def good (z : Bool) (m : List Bs) : U := .ofL false [.ofL z (m.map U.S), .ofL false [.I 0, .I 0]]
theorem not_and2 {c d : Int} (h : c ≠ 0) : (!((decide (c = 0)) && ((decide (d = 0)) && true))) = true := by rw [decide_eq_false h]; rfl
structure OkC (l : List Bs) (s : Bs) : Prop where
  val : Val l
  path : isP s = true
  new : s ∉ l
theorem isE {z : Bool} {m : List Bs} : ((U.ofL (z && (m.map U.S).isEmpty) (m.map U.S)).isNil && (U.ofL (z && (m.map U.S).isEmpty) (m.map U.S)).toL.isEmpty) = (z && (m.map U.S).isEmpty) := by
  rw [isNil_ofL', toL_ofL']
  cases z <;> cases (m.map U.S).isEmpty <;> rfl
theorem s6_ok {u : U} {l : List Bs} {s : Bs} (hu : Sl u l) (hb : ∀ t ∈ l, t.length ≤ 4194304) (hs : s.length ≤ 4194304) (h : OkC l s) :
    ∃ z m, Srt m ∧ (∀ t, t ∈ m ↔ t ∈ l ∨ t ∈ ch s) ∧ (z = true → m = []) ∧ Fi K 6 [u, .S s] = some (bif decide (100 < m.length) then bad 2 (-1) else good z m) := by
  have hl := h.val.len
  obtain ⟨c, d, q1, q2⟩ := s10 hu.is (by omega) hb
  rcases q2 with ⟨rfl, rfl, _⟩ | ⟨_, q⟩
  · have q17 := s17 s hu.is (by omega)
    have hh : has l s = false := by
      cases e : has l s
      · rfl
      · exact absurd (has_iff.1 e) h.new
    obtain ⟨b, q20, _⟩ := s20 hu (by omega)
    obtain ⟨z, m, i1, i2, i3, i4⟩ := s19 (b := (b && (l.map U.S).isEmpty)) hs (by omega) h.val.srt
    refine ⟨(z && (m.map U.S).isEmpty), m, i2, i3, fun h => by rw [Bool.and_eq_true] at h; simpa using h.2, e6 _ _ ?_⟩
    simp only [q1, s15 hs, h.path, q17, hh, Option.bind_some, get_ofL', nth_zero, nth_succ, toI_I, toB_B, decide_true, Bool.and_self, Bool.not_true, cond_false, loK, toS_S, q20, isNil_ofL', toL_ofL', i1]
    rw [show ((z && (m.map U.S).isEmpty) && (m.map U.S).isEmpty) = (z && (m.map U.S).isEmpty) by cases z <;> cases (m.map U.S).isEmpty <;> rfl]
    rw [s18]
    cases decide (100 < m.length) <;> rfl
  · exact absurd h.val q
theorem s6_bad {u : U} {l : List Bs} {s : Bs} (hu : Sl u l) (hl : l.length < 8796093022208) (hb : ∀ t ∈ l, t.length ≤ 4194304) (hs : s.length ≤ 4194304) (h : ¬ OkC l s) :
    ∃ c d, c ≠ 0 ∧ Fi K 6 [u, .S s] = some (bad c d) := by
  obtain ⟨c, d, q1, q2⟩ := s10 hu.is hl hb
  rcases q2 with ⟨rfl, rfl, hv⟩ | ⟨hc, _⟩
  · cases hp : isP s
    · refine ⟨10, -3, by omega, e6 _ _ ?_⟩
      simp only [q1, s15 hs, hp, Option.bind_some, get_ofL', nth_zero, nth_succ, toI_I, toB_B, decide_true, Bool.and_self, Bool.not_true, Bool.not_false, cond_false, cond_true, loK, toS_S, s16]
      rfl
    · have q17 := s17 s hu.is (by omega)
      have hh : has l s = true := by
        cases e : has l s
        · exact absurd ⟨hv, hp, fun e' => by rw [has_iff.2 e'] at e; cases e⟩ h
        · rfl
      refine ⟨7, -3, by omega, e6 _ _ ?_⟩
      simp only [q1, s15 hs, hp, q17, hh, Option.bind_some, get_ofL', nth_zero, nth_succ, toI_I, toB_B, decide_true, Bool.and_self, Bool.not_true, Bool.not_false, cond_false, cond_true, loK, toS_S, s16]
      rfl
  · refine ⟨c, d, hc, e6 _ _ ?_⟩
    have hc2 : (!((decide (c = 0)) && ((decide (d = 0)) && true))) = true := not_and2 hc
    simp only [q1, hc, Option.bind_some, get_ofL', nth_zero, nth_succ, toI_I, decide_false, Bool.false_and, Bool.not_false, cond_true, loK]
    rfl
structure OkD (l : List Bs) (s : Bs) : Prop where
  val : Val l
  mem : s ∈ l
  inb : s ≠ inbox
  leaf : ∀ t ∈ l, par t ≠ s
theorem any_par {l : List Bs} {s : Bs} : (l.any fun t => decide (par t = s)) = false ↔ ∀ t ∈ l, par t ≠ s := by
  rw [List.any_eq_false]; simp
theorem q22 {u : U} {l : List Bs} (s : Bs) (hu : Sl u l) (hl : l.length < 8796093022208) (hb : ∀ t ∈ l, t.length ≤ 4194304) : Fi K 21 [u, .C 22 1 (U.nth [U.S s])] = some (.B (l.any fun t => decide (par t = s))) :=
  s21 hu.is (by omega) fun t ht => s22 s (hb t ht)
theorem s7_ok {u : U} {l : List Bs} {s : Bs} (hu : Sl u l) (hb : ∀ t ∈ l, t.length ≤ 4194304) (h : OkD l s) :
    ∃ z, (z = true → keep (fun t => decide (t = s)) l = []) ∧ Fi K 7 [u, .S s] = some (good z (keep (fun t => decide (t = s)) l)) := by
  have hl := h.val.len
  obtain ⟨c, d, q1, q2⟩ := s10 hu.is (by omega) hb
  rcases q2 with ⟨rfl, rfl, _⟩ | ⟨_, q⟩
  · have q17 := s17 s hu.is (by omega)
    have hh : has l s = true := has_iff.2 h.mem
    obtain ⟨b, q20, _⟩ := s20 hu (by omega)
    have hi : ¬ s = [105, 110, 98, 111, 120] := h.inb
    have hany := any_par.2 h.leaf
    have q21 := q22 s hu (by omega) hb
    obtain ⟨z, q24⟩ := s24 (b := (b && (l.map U.S).isEmpty)) (c := .C 25 1 (U.nth [U.S s])) (l := l) (p := fun t => decide (t = s)) (by omega) fun t _ => s25 t s
    refine ⟨(z && ((keep (fun t => decide (t = s)) l).map U.S).isEmpty), fun h => by rw [Bool.and_eq_true] at h; simpa using h.2, e7 _ _ ?_⟩
    simp only [q1, q17, hh, hi, q21, hany, Option.bind_some, get_ofL', nth_zero, nth_succ, toI_I, toB_B, decide_true, decide_false, Bool.and_self, Bool.not_true, Bool.not_false, Bool.or_self, cond_false, cond_true, loK, toS_S, q20, isNil_ofL', toL_ofL', q24]
    rfl
  · exact absurd h.val q
theorem s7_bad {u : U} {l : List Bs} {s : Bs} (hu : Sl u l) (hl : l.length < 8796093022208) (hb : ∀ t ∈ l, t.length ≤ 4194304) (h : ¬ OkD l s) :
    ∃ c d, c ≠ 0 ∧ Fi K 7 [u, .S s] = some (bad c d) := by
  obtain ⟨c, d, q1, q2⟩ := s10 hu.is hl hb
  rcases q2 with ⟨rfl, rfl, hv⟩ | ⟨hc, _⟩
  · have q17 := s17 s hu.is (by omega)
    cases hh : has l s
    · refine ⟨6, -3, by omega, e7 _ _ ?_⟩
      simp only [q1, q17, hh, Option.bind_some, get_ofL', nth_zero, nth_succ, toI_I, toB_B, decide_true, Bool.and_self, Bool.not_true, Bool.not_false, cond_false, cond_true, loK, toS_S, s16]
      rfl
    · have q21 := q22 s hu hl hb
      by_cases hi : s = [105, 110, 98, 111, 120]
      · refine ⟨8, -3, by omega, e7 _ _ ?_⟩
        subst hi
        simp only [q1, q17, hh, Option.bind_some, get_ofL', nth_zero, nth_succ, toI_I, toB_B, decide_true, Bool.and_self, Bool.not_true, Bool.not_false, Bool.true_or, cond_false, cond_true, loK, toS_S, s16]
        rfl
      · have hany : (l.any fun t => decide (par t = s)) = true := by
          cases e : l.any fun t => decide (par t = s)
          · exact absurd ⟨hv, has_iff.1 hh, hi, any_par.1 e⟩ h
          · rfl
        refine ⟨8, -3, by omega, e7 _ _ ?_⟩
        simp only [q1, q17, hh, hi, q21, hany, Option.bind_some, get_ofL', nth_zero, nth_succ, toI_I, toB_B, decide_true, decide_false, Bool.and_self, Bool.not_true, Bool.not_false, Bool.or_true, cond_false, cond_true, loK, toS_S, s16]
        rfl
  · refine ⟨c, d, hc, e7 _ _ ?_⟩
    simp only [q1, hc, Option.bind_some, get_ofL', nth_zero, nth_succ, toI_I, decide_false, Bool.false_and, Bool.not_false, cond_true, loK]
    rfl
/-- the new name of a folder that goes along -/
def mv (fr to s : Bs) : Bs := to ++ s.drop fr.length
theorem bel_len {s top : Bs} (h : bel s top = true) : top.length ≤ s.length := by
  unfold bel at h
  rw [Bool.and_eq_true, Bool.and_eq_true] at h
  exact of_decide_eq_true h.1.1
theorem ch_len : ∀ (n : Nat) (s t : Bs), t ∈ chF n s → t.length ≤ s.length
  | 0, s, t, h => by simp [chF] at h
  | n + 1, s, t, h => by
    rw [chF] at h
    have hp := par_len s
    cases e : decide (s = [])
    · rw [e] at h
      rcases List.mem_cons.1 h with h | h
      · subst h; exact Nat.le_refl _
      · have := ch_len n (par s) t h; omega
    · rw [e] at h; simp at h
theorem l8 {u : U} {l : List Bs} {fr to : Bs} (hu : Is U.S u l) (hl : l.length ≤ 100) (hb : ∀ t ∈ l, t.length ≤ 4194304) (hm : ∀ t ∈ l, to.length + t.length ≤ 4194304) (a b : Int) : ∀ (r : List Bs) (i : Nat) (z : Bool) (m : List Bs), l.drop i = r → Srt m → m.length + r.length * 4194304 ≤ 838860800 →
    ((∀ s ∈ r, bel s fr = true → isP (mv fr to s) = true) ∧ (∃ z' m', Lp K 8 1 ⟨[.S to, .S fr, .I a, .I b, .B z, u, .I (l.length : Nat), .I (i : Nat)], [m.map U.S]⟩ = some (.brk ⟨[.I a, .I b, .B z'], [m'.map U.S]⟩) ∧ Srt m' ∧ (∀ t, t ∈ m' ↔ t ∈ m ∨ ∃ s ∈ r, bel s fr = true ∧ t ∈ ch (mv fr to s)))) ∨
    ((¬ ∀ s ∈ r, bel s fr = true → isP (mv fr to s) = true) ∧ Lp K 8 1 ⟨[.S to, .S fr, .I a, .I b, .B z, u, .I (l.length : Nat), .I (i : Nat)], [m.map U.S]⟩ = some (.ret (bad 10 (-4))))
  | [], i, z, m, e, h1, h2 => by
    have := drop_nil_ge e
    have g1 : ¬ ((i : Int) < (l.length : Int)) := by omega
    clear h2
    exact .inl ⟨by simp, z, m, l8_1 _ _ _ _ _ _ _ _ _ (by simp only [g1, decide_false, cond_false]), h1, by simp⟩
  | s :: r, i, z, m, e, h1, h2 => by
    have k := Cur.of e
    have hlt := k.lt
    have g1 : ((i : Int) < (l.length : Int)) := by omega
    have g2 : (0 : Int) ≤ (i : Int) := by omega
    have hx := hu.get i s k.elem
    have hms := hm s (List.mem_of_getElem? k.elem)
    rw [List.length_cons] at h2
    cases hbe : bel s fr
    · have hL : ∀ o, Lp K 8 1 ⟨[.S to, .S fr, .I a, .I b, .B z, u, .I (l.length : Nat), .I ((i + 1 : Nat) : Int)], [m.map U.S]⟩ = some o → Lp K 8 1 ⟨[.S to, .S fr, .I a, .I b, .B z, u, .I (l.length : Nat), .I (i : Nat)], [m.map U.S]⟩ = some o := fun o ho => l8_1 _ _ _ _ _ _ _ _ _ (by
        simp only [g1, g2, decide_true, cond_true, Bool.and_self, Int.toNat_natCast, hu.len, hx, toS_S, s26, hbe, Option.bind_some, toB_B, Bool.not_false]
        rw [w64s (by omega)]
        exact ho)
      rcases l8 hu hl hb hm a b r (i + 1) z m k.next h1 (Nat.le_trans (Nat.add_le_add_left (Nat.mul_le_mul_right _ (Nat.le_succ _)) _) h2) with ⟨c1, z', m', c2, c3, c4⟩ | ⟨c1, c2⟩
      · refine .inl ⟨fun t ht hb' => ?_, z', m', hL _ c2, c3, fun t => ?_⟩
        · rcases List.mem_cons.1 ht with e' | e'
          · subst e'; rw [hbe] at hb'; cases hb'
          · exact c1 t e' hb'
        · rw [c4]
          constructor
          · rintro (h | ⟨y, h, h'⟩)
            · exact .inl h
            · exact .inr ⟨y, List.mem_cons_of_mem _ h, h'⟩
          · rintro (h | ⟨y, h, h', h''⟩)
            · exact .inl h
            · rcases List.mem_cons.1 h with e' | e'
              · subst e'; rw [hbe] at h'; cases h'
              · exact .inr ⟨y, e', h', h''⟩
      · exact .inr ⟨fun h => c1 fun t ht => h t (List.mem_cons_of_mem _ ht), hL _ c2⟩
    · have hbl := bel_len hbe
      have g3 : (0 : Int) ≤ ((fr.length : Nat) : Int) := by omega
      have g4 : ((fr.length : Nat) : Int) ≤ ((s.length : Nat) : Int) := by omega
      have g5 : ((s.length : Nat) : Int) ≤ ((s.length : Nat) : Int) := by omega
      have g6 : to.length + (s.drop fr.length).length ≤ 9223372036854775807 := by rw [List.length_drop]; omega
      have hmv : (mv fr to s).length ≤ 4194304 := by rw [mv, List.length_append, List.length_drop]; omega
      cases hp : isP (mv fr to s)
      · refine .inr ⟨fun h => ?_, l8_1 _ _ _ _ _ _ _ _ _ ?_⟩
        · have := h s (List.mem_cons_self ..) hbe
          rw [hp] at this; cases this
        · simp only [g1, g2, g3, g4, g5, g6, decide_true, cond_true, Bool.and_self, Int.toNat_natCast, hu.len, hx, toS_S, s26, hbe, Option.bind_some, toB_B, Bool.not_true, cond_false, List.take_length]
          rw [show Fi K 15 [.S (to ++ s.drop fr.length)] = _ from s15 (s := mv fr to s) hmv, hp, Option.bind_some, s16]
          rfl
      · obtain ⟨z1, m1, i1, i2, i3, i4⟩ := s19 (b := (z && (m.map U.S).isEmpty)) (l := m) hmv (by omega) h1
        have hL : ∀ o, Lp K 8 1 ⟨[.S to, .S fr, .I a, .I b, .B (z1 && (m1.map U.S).isEmpty), u, .I (l.length : Nat), .I ((i + 1 : Nat) : Int)], [m1.map U.S]⟩ = some o → Lp K 8 1 ⟨[.S to, .S fr, .I a, .I b, .B z, u, .I (l.length : Nat), .I (i : Nat)], [m.map U.S]⟩ = some o := fun o ho => l8_1 _ _ _ _ _ _ _ _ _ (by
          simp only [g1, g2, g3, g4, g5, g6, decide_true, cond_true, Bool.and_self, Int.toNat_natCast, hu.len, hx, toS_S, s26, hbe, Option.bind_some, toB_B, Bool.not_true, cond_false, List.take_length]
          rw [show Fi K 15 [.S (to ++ s.drop fr.length)] = _ from s15 (s := mv fr to s) hmv, hp, Option.bind_some]
          rw [show Fi K 19 [.ofL (z && (m.map U.S).isEmpty) (m.map U.S), .S (to ++ s.drop fr.length)] = _ from i1]
          simp only [toB_B, Bool.not_true, cond_false, Option.bind_some, isNil_ofL', toL_ofL']
          rw [w64s (by omega)]
          exact ho)
        rcases l8 hu hl hb hm a b r (i + 1) (z1 && (m1.map U.S).isEmpty) m1 k.next i2 (by omega) with ⟨c1, z', m', c2, c3, c4⟩ | ⟨c1, c2⟩
        · refine .inl ⟨fun t ht hb' => ?_, z', m', hL _ c2, c3, fun t => ?_⟩
          · rcases List.mem_cons.1 ht with e' | e'
            · subst e'; exact hp
            · exact c1 t e' hb'
          · rw [c4, i3]
            constructor
            · rintro ((h | h) | ⟨y, h, h'⟩)
              · exact .inl h
              · exact .inr ⟨s, List.mem_cons_self .., hbe, h⟩
              · exact .inr ⟨y, List.mem_cons_of_mem _ h, h'⟩
            · rintro (h | ⟨y, h, h', h''⟩)
              · exact .inl (.inl h)
              · rcases List.mem_cons.1 h with e' | e'
                · subst e'; exact .inl (.inr h'')
                · exact .inr ⟨y, e', h', h''⟩
        · exact .inr ⟨fun h => c1 fun t ht => h t (List.mem_cons_of_mem _ ht), hL _ c2⟩
structure OkR (l : List Bs) (fr to : Bs) : Prop where
  val : Val l
  mem : fr ∈ l
  inb : fr ≠ inbox
  path : isP to = true
  free : bel to fr = false
  new : to ∉ l
  all : ∀ s ∈ l, bel s fr = true → isP (mv fr to s) = true
theorem keep_len (p : Bs → Bool) (l : List Bs) : (keep p l).length ≤ l.length := List.length_filter_le ..
theorem keep_mem {p : Bs → Bool} {l : List Bs} {t : Bs} : t ∈ keep p l ↔ t ∈ l ∧ p t = false := by
  rw [keep, List.mem_filter]; simp
theorem keep_srt {p : Bs → Bool} {l : List Bs} (h : Srt l) : Srt (keep p l) := List.Pairwise.sublist List.filter_sublist h
theorem s8_ok {u : U} {l : List Bs} {fr to : Bs} (hu : Sl u l) (hb : ∀ t ∈ l, t.length ≤ 4194304) (hm : ∀ t ∈ l, to.length + t.length ≤ 4194304) (h : OkR l fr to) :
    ∃ z m, Srt m ∧ (∀ t, t ∈ m ↔ (t ∈ l ∧ bel t fr = false) ∨ ∃ s ∈ l, bel s fr = true ∧ t ∈ ch (mv fr to s)) ∧ (z = true → m = []) ∧ Fi K 8 [u, .S fr, .S to] = some (bif decide (100 < m.length) then bad 2 (-1) else good z m) := by
  have hl := h.val.len
  obtain ⟨c, d, q1, q2⟩ := s10 hu.is (by omega) hb
  rcases q2 with ⟨rfl, rfl, _⟩ | ⟨_, q⟩
  · have q17 := s17 fr hu.is (by omega)
    have q17' := s17 to hu.is (by omega)
    have hh : has l fr = true := has_iff.2 h.mem
    have hh' : has l to = false := by
      cases e : has l to
      · rfl
      · exact absurd (has_iff.1 e) h.new
    have hto : to.length ≤ 4194304 := by have := hm fr h.mem; omega
    obtain ⟨b, q20, _⟩ := s20 hu (by omega)
    have hi : ¬ fr = [105, 110, 98, 111, 120] := h.inb
    obtain ⟨z, q24⟩ := s24 (b := (b && (l.map U.S).isEmpty)) (c := .C 27 1 (U.nth [U.S fr])) (l := l) (p := fun t => bel t fr) (by omega) fun t _ => s27 t fr
    have hkl := keep_len (fun t => bel t fr) l
    rcases l8 (fr := fr) (to := to) hu.is hl hb hm 0 0 l 0 z (keep (fun t => bel t fr) l) rfl (keep_srt h.val.srt) (by omega) with ⟨c1, z', m', c2, c3, c4⟩ | ⟨c1, c2⟩
    · have c2 : Lp K 8 1 ⟨[.S to, .S fr, .I 0, .I 0, .B z, u, .I (l.length : Nat), .I 0], [(keep (fun t => bel t fr) l).map U.S]⟩ = _ := c2
      refine ⟨(z' && (m'.map U.S).isEmpty), m', c3, fun t => by rw [c4, keep_mem], fun h => by rw [Bool.and_eq_true] at h; simpa using h.2, e8 _ _ _ ?_⟩
      simp only [q1, q17, q17', hh, hh', hi, s15 hto, h.path, s26, h.free, Option.bind_some, get_ofL', nth_zero, nth_succ, toI_I, toB_B, decide_true, decide_false, Bool.and_self, Bool.not_true, Bool.not_false, cond_false, cond_true, loK, toS_S, q20, isNil_ofL', toL_ofL', q24, hu.is.len, c2, nthL_zero]
      rw [s18]
      cases decide (100 < m'.length) <;> rfl
    · exact absurd h.all c1
  · exact absurd h.val q
theorem s8_bad {u : U} {l : List Bs} {fr to : Bs} (hu : Sl u l) (hl : l.length < 8796093022208) (hb : ∀ t ∈ l, t.length ≤ 4194304) (hm : ∀ t ∈ l, to.length + t.length ≤ 4194304) (hto : to.length ≤ 4194304) (h : ¬ OkR l fr to) :
    ∃ c d, c ≠ 0 ∧ Fi K 8 [u, .S fr, .S to] = some (bad c d) := by
  obtain ⟨c, d, q1, q2⟩ := s10 hu.is hl hb
  rcases q2 with ⟨rfl, rfl, hv⟩ | ⟨hc, _⟩
  · have q17 := s17 fr hu.is (by omega)
    have q17' := s17 to hu.is (by omega)
    cases hh : has l fr
    · refine ⟨6, -3, by omega, e8 _ _ _ ?_⟩
      simp only [q1, q17, hh, Option.bind_some, get_ofL', nth_zero, nth_succ, toI_I, toB_B, decide_true, Bool.and_self, Bool.not_true, Bool.not_false, cond_false, cond_true, loK, toS_S, s16]
      rfl
    by_cases hi : fr = [105, 110, 98, 111, 120]
    · refine ⟨8, -3, by omega, e8 _ _ _ ?_⟩
      subst hi
      simp only [q1, q17, hh, Option.bind_some, get_ofL', nth_zero, nth_succ, toI_I, toB_B, decide_true, Bool.and_self, Bool.not_true, Bool.not_false, cond_false, cond_true, loK, toS_S, s16]
      rfl
    cases hp : isP to
    · refine ⟨10, -4, by omega, e8 _ _ _ ?_⟩
      simp only [q1, q17, hh, hi, s15 hto, hp, Option.bind_some, get_ofL', nth_zero, nth_succ, toI_I, toB_B, decide_true, decide_false, Bool.and_self, Bool.not_true, Bool.not_false, cond_false, cond_true, loK, toS_S, s16]
      rfl
    cases hf : bel to fr
    case true =>
      refine ⟨14, -4, by omega, e8 _ _ _ ?_⟩
      simp only [q1, q17, hh, hi, s15 hto, hp, s26, hf, Option.bind_some, get_ofL', nth_zero, nth_succ, toI_I, toB_B, decide_true, decide_false, Bool.and_self, Bool.not_true, Bool.not_false, cond_false, cond_true, loK, toS_S, s16]
      rfl
    cases hh' : has l to
    case true =>
      refine ⟨7, -4, by omega, e8 _ _ _ ?_⟩
      simp only [q1, q17, q17', hh, hh', hi, s15 hto, hp, s26, hf, Option.bind_some, get_ofL', nth_zero, nth_succ, toI_I, toB_B, decide_true, decide_false, Bool.and_self, Bool.not_true, Bool.not_false, cond_false, cond_true, loK, toS_S, s16]
      rfl
    have hl' := hv.len
    obtain ⟨b, q20, _⟩ := s20 hu (by omega)
    obtain ⟨z, q24⟩ := s24 (b := (b && (l.map U.S).isEmpty)) (c := .C 27 1 (U.nth [U.S fr])) (l := l) (p := fun t => bel t fr) (by omega) fun t _ => s27 t fr
    have hkl := keep_len (fun t => bel t fr) l
    rcases l8 (fr := fr) (to := to) hu.is hl' hb hm 0 0 l 0 z (keep (fun t => bel t fr) l) rfl (keep_srt hv.srt) (by omega) with ⟨c1, z', m', c2, c3, c4⟩ | ⟨c1, c2⟩
    · exact absurd ⟨hv, has_iff.1 hh, hi, hp, hf, (fun e => by rw [has_iff.2 e] at hh'; cases hh'), c1⟩ h
    · have c2 : Lp K 8 1 ⟨[.S to, .S fr, .I 0, .I 0, .B z, u, .I (l.length : Nat), .I 0], [(keep (fun t => bel t fr) l).map U.S]⟩ = _ := c2
      refine ⟨10, -4, by omega, e8 _ _ _ ?_⟩
      simp only [q1, q17, q17', hh, hh', hi, s15 hto, hp, s26, hf, Option.bind_some, get_ofL', nth_zero, nth_succ, toI_I, toB_B, decide_true, decide_false, Bool.and_self, Bool.not_true, Bool.not_false, cond_false, cond_true, loK, toS_S, q20, isNil_ofL', toL_ofL', q24, hu.is.len, c2, nthL_zero]
  · refine ⟨c, d, hc, e8 _ _ _ ?_⟩
    simp only [q1, hc, Option.bind_some, get_ofL', nth_zero, nth_succ, toI_I, decide_false, Bool.false_and, Bool.not_false, cond_true, loK]
    rfl
/-- is top among s and its ancestors -/
def und (s top : Bs) : Bool := has (ch s) top
theorem l13 : ∀ (n : Nat) (s top : Bs), s.length ≤ n → s.length ≤ 4194304 → Lp K 13 0 ⟨[.S s, .S top], []⟩ = some (bif und s top then .ret (.B true) else .brk ⟨[], []⟩)
  | n, [], top, h1, h2 => l13_0 _ _ (by simp [und, ch_nil, has])
  | 0, c :: s, top, h1, h2 => by simp at h1
  | n + 1, c :: s, top, h1, h2 => by
    have hp := par_len (c :: s)
    rw [List.length_cons] at h1 hp
    have h2' : s.length + 1 ≤ 4194304 := h2
    have e : decide (c :: s = ([] : Bs)) = false := decide_eq_false (by simp)
    refine l13_0 _ _ ?_
    rw [e, Bool.not_false, cond_true, und, ch_cons (s := c :: s) (by simp)]
    by_cases ht : c :: s = top
    · rw [decide_eq_true ht, cond_true, ← ht]
      simp [has]
    · have ht' : ¬ top = c :: s := fun e => ht e.symm
      rw [decide_eq_false ht, cond_false, s11 h2, Option.bind_some, toS_S, l13 n _ top (by omega) (by omega)]
      simp [has, ht', und]
theorem s13 {s : Bs} (top : Bs) (hs : s.length ≤ 4194304) : Fi K 13 [.S s, .S top] = some (.B (und s top)) := by
  refine e13 _ _ ?_
  rw [l13 s.length s top (Nat.le_refl _) hs]
  cases und s top <;> rfl
end Go.Proofs.YtnahhhaicalmcaaDoor
end
section
namespace Go.Proofs.YtnahhhaicalmcaaDoor
open Go.Ab
set_option linter.unusedVariables false
set_option linter.unusedSimpArgs false
set_option maxRecDepth 100000

theorem parU_no {s : Bs} (h : (47 : UInt8) ∉ s) : ∀ k, k ≤ s.length → parU s k = []
  | 0, _ => rfl
  | k + 1, hk => by
    have hg : s[k]? = some (s.getD k 0) := by rw [List.getD, List.getElem?_eq_getElem (by omega)]; rfl
    have : ¬ s.getD k 0 = 47 := fun e => h (by rw [← e]; exact List.mem_of_getElem? hg)
    rw [parU, decide_eq_false this, cond_false, parU_no h k (by omega)]
theorem par_no {s : Bs} (h : (47 : UInt8) ∉ s) : par s = [] := parU_no h _ (Nat.le_refl _)
theorem parU_at {p t : Bs} (h : (47 : UInt8) ∉ t) : ∀ i, i ≤ t.length → parU (p ++ 47 :: t) (p.length + 1 + i) = p
  | 0, _ => by
    have : (p ++ 47 :: t).getD p.length 0 = 47 := by simp [List.getD]
    rw [Nat.add_zero, parU, this]
    simp
  | i + 1, hi => by
    have hg : t[i]? = some (t.getD i 0) := by rw [List.getD, List.getElem?_eq_getElem (by omega)]; rfl
    have hne : ¬ t.getD i 0 = 47 := fun e => h (by rw [← e]; exact List.mem_of_getElem? hg)
    have e1 : (p ++ 47 :: t).getD (p.length + 1 + i) 0 = t.getD i 0 := by
      rw [List.getD, List.getElem?_append_right (by omega), show p.length + 1 + i - p.length = i + 1 by omega, List.getElem?_cons_succ]; rfl
    rw [show p.length + 1 + (i + 1) = (p.length + 1 + i) + 1 by omega, parU, e1, decide_eq_false hne, cond_false, parU_at h i (by omega)]
theorem par_at {p t : Bs} (h : (47 : UInt8) ∉ t) : par (p ++ 47 :: t) = p := by
  have := parU_at (p := p) h t.length (Nat.le_refl _)
  rw [par, List.length_append, List.length_cons, show p.length + (t.length + 1) = p.length + 1 + t.length by omega, this]
theorem last47 : ∀ s : Bs, (47 : UInt8) ∈ s → ∃ p t, s = p ++ 47 :: t ∧ (47 : UInt8) ∉ t
  | [], h => by simp at h
  | c :: s, h => by
    by_cases hs : (47 : UInt8) ∈ s
    · obtain ⟨p, t, e, ht⟩ := last47 s hs
      exact ⟨c :: p, t, by rw [e]; rfl, ht⟩
    · rcases List.mem_cons.1 h with e | e
      · subst e; exact ⟨[], s, rfl, hs⟩
      · exact absurd e hs
theorem par_or (s : Bs) : ((47 : UInt8) ∉ s ∧ par s = []) ∨ ∃ t, s = par s ++ 47 :: t ∧ (47 : UInt8) ∉ t := by
  by_cases h : (47 : UInt8) ∈ s
  · obtain ⟨p, t, e, ht⟩ := last47 s h
    refine .inr ⟨t, ?_, ht⟩
    have : par s = p := by rw [e]; exact par_at ht
    rw [this]; exact e
  · exact .inl ⟨h, par_no h⟩
theorem cut_app : ∀ (p t : Bs), cutS (p ++ 47 :: t) = cutS p ++ cutS t
  | [], t => rfl
  | c :: p, t => by
    have ih := cut_app p t
    by_cases hc : c = 47
    · subst hc
      show [] :: cutS (p ++ 47 :: t) = ([] :: cutS p) ++ cutS t
      rw [ih]; rfl
    · have e : decide (c = 47) = false := decide_eq_false hc
      rw [List.cons_append, cutS, cutS, e, ih]
      cases h : cutS p with
      | nil => exact absurd h (cut_ne p)
      | cons q qs => rfl
theorem cut_none : ∀ t : Bs, (47 : UInt8) ∉ t → cutS t = [t]
  | [], _ => rfl
  | c :: t, h => by
    have hc : c ≠ 47 := fun e => h (by rw [e]; exact List.mem_cons_self ..)
    rw [cutS, decide_eq_false hc, cut_none t fun e => h (List.mem_cons_of_mem _ e)]
theorem isP_ne {s : Bs} (h : isP s = true) : s ≠ [] := by
  intro e; subst e
  simp [isP, cutS, isNm] at h
theorem isP_app {p t : Bs} (h : isP (p ++ 47 :: t) = true) : isP p = true := by
  rw [isP, cut_app, List.length_append, List.all_append, Bool.and_eq_true, Bool.and_eq_true, decide_eq_true_eq] at h
  rw [isP, Bool.and_eq_true, decide_eq_true_eq]
  exact ⟨by omega, h.2.1⟩
theorem isP_par {s : Bs} (h : isP s = true) (hp : par s ≠ []) : isP (par s) = true := by
  rcases par_or s with ⟨_, e⟩ | ⟨t, e, _⟩
  · exact absurd e hp
  · rw [e] at h
    exact isP_app h
theorem chF_P : ∀ (n : Nat) (s : Bs), (s ≠ [] → isP s = true) → ∀ t ∈ chF n s, isP t = true
  | 0, s, h, t, ht => by simp [chF] at ht
  | n + 1, s, h, t, ht => by
    rw [chF] at ht
    cases e : decide (s = [])
    · have e' := of_decide_eq_false e
      rw [e] at ht
      rcases List.mem_cons.1 ht with ht | ht
      · subst ht; exact h e'
      · exact chF_P n (par s) (fun hp => isP_par (h e') hp) t ht
    · rw [e] at ht; simp at ht
theorem ch_P {s : Bs} (h : isP s = true) : ∀ t ∈ ch s, isP t = true := chF_P _ _ fun _ => h
/-- a list with the parents of what it has -/
def Cl (l : List Bs) : Prop := ∀ s ∈ l, par s ≠ [] → par s ∈ l
theorem Cl.chF {l : List Bs} (h : Cl l) : ∀ (n : Nat) (s : Bs), (s ≠ [] → s ∈ l) → ∀ t ∈ chF n s, t ∈ l
  | 0, s, hs, t, ht => by simp [YtnahhhaicalmcaaDoor.chF] at ht
  | n + 1, s, hs, t, ht => by
    rw [YtnahhhaicalmcaaDoor.chF] at ht
    cases e : decide (s = [])
    · have e' := of_decide_eq_false e
      rw [e] at ht
      rcases List.mem_cons.1 ht with ht | ht
      · subst ht; exact hs e'
      · exact Cl.chF h n (par s) (fun hp => h s (hs e') hp) t ht
    · rw [e] at ht; simp at ht
theorem Cl.ch {l : List Bs} (h : Cl l) {s : Bs} (hs : s ≠ [] → s ∈ l) : ∀ t ∈ ch s, t ∈ l := Cl.chF h _ s hs
theorem ch_self {s : Bs} (h : s ≠ []) : s ∈ ch s := by rw [ch_cons h]; exact List.mem_cons_self ..
theorem chF_Cl : ∀ (n : Nat) (s : Bs), s.length ≤ n → Cl (chF n s)
  | 0, s, hn, t, ht, _ => by simp [chF] at ht
  | n + 1, s, hn, t, ht, hp => by
    rw [chF] at ht ⊢
    cases e : decide (s = [])
    · have e' := of_decide_eq_false e
      rw [e] at ht
      have hl := par_len s
      have hs0 : s.length ≠ 0 := fun h0 => e' (List.length_eq_zero_iff.1 h0)
      refine List.mem_cons_of_mem _ ?_
      rcases List.mem_cons.1 ht with ht | ht
      · subst ht
        have := ch_self hp
        rw [ch, ← chF_eq n _ (by omega)] at this
        exact this
      · exact chF_Cl n (par s) (by omega) t ht hp
    · rw [e] at ht; simp at ht
theorem ch_Cl (s : Bs) : Cl (ch s) := chF_Cl _ _ (Nat.le_refl _)
/-- what may follow a folder's name -/
def Sf (x : Bs) : Prop := x = [] ∨ ∃ t, x = 47 :: t
theorem bel_iff {s top : Bs} : bel s top = true ↔ ∃ x, Sf x ∧ s = top ++ x := by
  unfold bel
  rw [Bool.and_eq_true, Bool.and_eq_true, Bool.or_eq_true, decide_eq_true_eq, decide_eq_true_eq, decide_eq_true_eq, decide_eq_true_eq]
  constructor
  · rintro ⟨⟨h1, h2⟩, h3⟩
    refine ⟨s.drop top.length, ?_, ?_⟩
    · cases h : s.drop top.length with
      | nil => exact .inl rfl
      | cons c t =>
        rw [h] at h3
        rcases h3 with h3 | h3
        · cases h3
        · have h3 : c = 47 := h3
          exact .inr ⟨t, by rw [h3]⟩
    · conv => lhs; rw [← List.take_append_drop top.length s, h2]
  · rintro ⟨x, hx, rfl⟩
    refine ⟨⟨by simp, by simp⟩, ?_⟩
    rw [List.drop_left]
    rcases hx with rfl | ⟨t, rfl⟩
    · exact .inl rfl
    · exact .inr rfl
theorem bel_self (s : Bs) : bel s s = true := bel_iff.2 ⟨[], .inl rfl, by simp⟩
theorem bel_par {s top : Bs} (hp : par s ≠ []) (h : bel (par s) top = true) : bel s top = true := by
  obtain ⟨x, hx, e⟩ := bel_iff.1 h
  rcases par_or s with ⟨_, e'⟩ | ⟨t, e', _⟩
  · exact absurd e' hp
  · refine bel_iff.2 ⟨x ++ 47 :: t, ?_, ?_⟩
    · rcases hx with rfl | ⟨y, rfl⟩
      · exact .inr ⟨t, rfl⟩
      · exact .inr ⟨y ++ 47 :: t, rfl⟩
    · rw [e', e, List.append_assoc]
theorem sfx {x : Bs} (h : Sf x) (h0 : x ≠ []) : Sf (par x) ∧ (par x).length < x.length ∧ ∀ q, par (q ++ x) = q ++ par x := by
  rcases par_or x with ⟨e, _⟩ | ⟨t, e, ht⟩
  · rcases h with h | ⟨t, h⟩
    · exact absurd h h0
    · rw [h] at e; exact absurd (List.mem_cons_self ..) e
  · have hl := par_len x
    have hx0 : x.length ≠ 0 := fun h' => h0 (List.length_eq_zero_iff.1 h')
    refine ⟨?_, by omega, fun q => ?_⟩
    · rcases h with h | ⟨y, h⟩
      · exact absurd h h0
      · cases hp : par x with
        | nil => exact .inl rfl
        | cons c p =>
          rw [hp, h] at e
          have : (47 : UInt8) = c := by injection e
          exact .inr ⟨p, by rw [this]⟩
    · have : q ++ x = (q ++ par x) ++ 47 :: t := by rw [List.append_assoc, ← e]
      rw [this, par_at ht]
/-- what follows, cut short from behind -/
def sfs : Nat → Bs → List Bs
  | 0, x => [x]
  | n + 1, x => bif decide (x = []) then [[]] else x :: sfs n (par x)
theorem sfs_ok : ∀ (n : Nat) (x : Bs), Sf x → ∀ y ∈ sfs n x, Sf y
  | 0, x, h, y, hy => by
    rw [sfs, List.mem_singleton] at hy
    subst hy; exact h
  | n + 1, x, h, y, hy => by
    rw [sfs] at hy
    cases e : decide (x = [])
    · rw [e] at hy
      rcases List.mem_cons.1 hy with hy | hy
      · subst hy; exact h
      · exact sfs_ok n _ (sfx h (of_decide_eq_false e)).1 y hy
    · rw [e] at hy
      have : y = [] := by simpa using hy
      exact .inl this
theorem sfs_self (n : Nat) (x : Bs) : x ∈ sfs n x := by
  cases n with
  | zero => simp [sfs]
  | succ n =>
    rw [sfs]
    cases e : decide (x = [])
    · exact List.mem_cons_self ..
    · rw [of_decide_eq_true e]; simp
theorem sfs_nil : ∀ (n : Nat) (x : Bs), x.length ≤ n → Sf x → [] ∈ sfs n x
  | 0, x, h, _ => by
    have : x = [] := List.length_eq_zero_iff.1 (by omega)
    subst this; simp [sfs]
  | n + 1, x, h, hx => by
    rw [sfs]
    cases e : decide (x = [])
    · obtain ⟨h1, h2, _⟩ := sfx hx (of_decide_eq_false e)
      exact List.mem_cons_of_mem _ (sfs_nil n _ (by omega) h1)
    · simp
theorem ch_app {q : Bs} (hq : q ≠ []) : ∀ (n : Nat) (x : Bs), x.length ≤ n → Sf x → ch (q ++ x) = (sfs n x).map (q ++ ·) ++ ch (par q)
  | 0, x, h, hx => by
    have : x = [] := List.length_eq_zero_iff.1 (by omega)
    subst this
    rw [List.append_nil, ch_cons hq]
    simp [sfs]
  | n + 1, x, h, hx => by
    rw [sfs]
    cases e : decide (x = [])
    · obtain ⟨h1, h2, h3⟩ := sfx hx (of_decide_eq_false e)
      rw [ch_cons (by simp [hq]), h3, ch_app hq n _ (by omega) h1]
      simp
    · rw [of_decide_eq_true e, List.append_nil, ch_cons hq]
      simp
theorem mem_ch_app {q x t : Bs} (hq : q ≠ []) (hx : Sf x) : t ∈ ch (q ++ x) ↔ (∃ y ∈ sfs x.length x, t = q ++ y) ∨ t ∈ ch (par q) := by
  rw [ch_app hq x.length x (Nat.le_refl _) hx, List.mem_append, List.mem_map]
  constructor
  · rintro (⟨y, a, b⟩ | h)
    · exact .inl ⟨y, a, b.symm⟩
    · exact .inr h
  · rintro (⟨y, a, b⟩ | h)
    · exact .inl ⟨y, a, b.symm⟩
    · exact .inr h
theorem bel_mem {s top : Bs} (h : bel s top = true) (ht : top ≠ []) : top ∈ ch s := by
  obtain ⟨x, hx, rfl⟩ := bel_iff.1 h
  exact (mem_ch_app ht hx).2 (.inl ⟨[], sfs_nil _ _ (Nat.le_refl _) hx, by simp⟩)
theorem mv_app {fr to x : Bs} : mv fr to (fr ++ x) = to ++ x := by rw [mv, List.drop_left]
/-- what the new list has -/
structure MemR (l m : List Bs) (fr to : Bs) : Prop where
  mem : ∀ t, t ∈ m ↔ (t ∈ l ∧ bel t fr = false) ∨ ∃ s ∈ l, bel s fr = true ∧ t ∈ ch (mv fr to s)
theorem val_c {l m : List Bs} {s : Bs} (h : OkC l s) (hm : Srt m) (h1 : ∀ t, t ∈ m ↔ t ∈ l ∨ t ∈ ch s) (h2 : m.length ≤ 100) : Val m where
  len := h2
  path t ht := by
    rcases (h1 t).1 ht with h' | h'
    · exact h.val.path t h'
    · exact ch_P h.path t h'
  srt := hm
  par t ht hp := by
    rcases (h1 t).1 ht with h' | h'
    · exact (h1 _).2 (.inl (h.val.par t h' hp))
    · exact (h1 _).2 (.inr (ch_Cl s t h' hp))
  inb := (h1 _).2 (.inl h.val.inb)
theorem val_d {l : List Bs} {s : Bs} (h : OkD l s) : Val (keep (fun t => decide (t = s)) l) where
  len := Nat.le_trans (keep_len _ _) h.val.len
  path t ht := h.val.path t (keep_mem.1 ht).1
  srt := keep_srt h.val.srt
  par t ht hp := keep_mem.2 ⟨h.val.par t (keep_mem.1 ht).1 hp, decide_eq_false (h.leaf t (keep_mem.1 ht).1)⟩
  inb := keep_mem.2 ⟨h.val.inb, decide_eq_false fun e => h.inb e.symm⟩
theorem inbox_bel {fr : Bs} (h : fr ≠ inbox) : bel inbox fr = false := by
  cases e : bel inbox fr
  · rfl
  · obtain ⟨x, hx, e'⟩ := bel_iff.1 e
    rcases hx with rfl | ⟨t, rfl⟩
    · rw [List.append_nil] at e'; exact absurd e'.symm h
    · have : (47 : UInt8) ∈ inbox := by rw [e']; simp
      simp [inbox] at this
theorem val_r {l m : List Bs} {fr to : Bs} (h : OkR l fr to) (hm : Srt m) (h1 : ∀ t, t ∈ m ↔ (t ∈ l ∧ bel t fr = false) ∨ ∃ s ∈ l, bel s fr = true ∧ t ∈ ch (mv fr to s)) (h2 : m.length ≤ 100) : Val m where
  len := h2
  path t ht := by
    rcases (h1 t).1 ht with h' | ⟨s, a, b, c⟩
    · exact h.val.path t h'.1
    · exact ch_P (h.all s a b) t c
  srt := hm
  par t ht hp := by
    rcases (h1 t).1 ht with ⟨a, b⟩ | ⟨s, a, b, c⟩
    · refine (h1 _).2 (.inl ⟨h.val.par t a hp, ?_⟩)
      cases e : bel (YtnahhhaicalmcaaDoor.par t) fr
      · rfl
      · rw [bel_par hp e] at b; cases b
    · exact (h1 _).2 (.inr ⟨s, a, b, ch_Cl _ t c hp⟩)
  inb := (h1 _).2 (.inl ⟨h.val.inb, inbox_bel h.inb⟩)
/-- creating, then deleting -/
theorem undo_ok {l m : List Bs} {s : Bs} (h : OkC l s) (hm : Srt m) (h1 : ∀ t, t ∈ m ↔ t ∈ l ∨ t ∈ ch s) (h2 : m.length ≤ 100) (hp : par s ≠ [] → par s ∈ l) : OkD m s ∧ keep (fun t => decide (t = s)) m = l := by
  have hs := isP_ne h.path
  have hmem : ∀ t, t ∈ m ↔ t ∈ l ∨ t = s := fun t => by
    rw [h1, ch_cons hs, List.mem_cons]
    constructor
    · rintro (h' | h' | h')
      · exact .inl h'
      · exact .inr h'
      · exact .inl (Cl.ch (l := l) h.val.par hp t h')
    · rintro (h' | h')
      · exact .inl h'
      · exact .inr (.inl h')
  refine ⟨⟨val_c h hm h1 h2, (hmem s).2 (.inr rfl), fun e => h.new (by rw [e]; exact h.val.inb), fun t ht e => ?_⟩, ?_⟩
  · rcases (hmem t).1 ht with h' | h'
    · exact h.new (by rw [← e]; exact h.val.par t h' (by rw [e]; exact hs))
    · subst h'
      have hl := par_len t
      have h0 : t.length ≠ 0 := fun h0 => hs (List.length_eq_zero_iff.1 h0)
      rw [e] at hl; omega
  · refine Srt.ext (keep_srt hm) h.val.srt fun t => ?_
    rw [keep_mem, hmem]
    constructor
    · rintro ⟨h' | h', e⟩
      · exact h'
      · exact absurd h' (of_decide_eq_false e)
    · intro h'
      exact ⟨.inl h', decide_eq_false fun e => h.new (by rw [← e]; exact h')⟩
theorem keep_lt {m : List Bs} {x : Bs} (h : x ∈ m) : (keep (fun t => decide (t = x)) m).length < m.length := by
  rw [keep, List.length_filter_lt_length_iff_exists]
  exact ⟨x, h, by simp⟩
theorem sub_len {l m : List Bs} (hl : Srt l) (hm : Srt m) (h : ∀ t ∈ l, t ∈ m) : l.length ≤ m.length := by
  have : keep (fun t => !has l t) m = l := Srt.ext (keep_srt hm) hl fun t => by
    rw [keep_mem]
    constructor
    · rintro ⟨_, e⟩; rw [Bool.not_eq_false'] at e; exact has_iff.1 e
    · intro e; exact ⟨h t e, by rw [has_iff.2 e]; rfl⟩
  rw [← this]
  exact keep_len _ _
theorem more {l m : List Bs} {s : Bs} (h : OkC l s) (hm : Srt m) (h1 : ∀ t, t ∈ m ↔ t ∈ l ∨ t ∈ ch s) (hp : par s ≠ []) (hn : par s ∉ l) : l.length + 1 < m.length := by
  have hs := isP_ne h.path
  have hne : par s ≠ s := fun e => by
    have hl := par_len s
    have h0 : s.length ≠ 0 := fun h0 => hs (List.length_eq_zero_iff.1 h0)
    rw [e] at hl; omega
  have m1 : s ∈ m := (h1 s).2 (.inr (ch_self hs))
  have m2 : par s ∈ keep (fun t => decide (t = s)) m := keep_mem.2 ⟨(h1 _).2 (.inr (by rw [ch_cons hs]; exact List.mem_cons_of_mem _ (ch_self hp))), decide_eq_false hne⟩
  have a := keep_lt m1
  have b := keep_lt m2
  have c := sub_len h.val.srt (keep_srt (p := fun t => decide (t = par s)) (keep_srt (p := fun t => decide (t = s)) hm)) fun t ht => keep_mem.2 ⟨keep_mem.2 ⟨(h1 t).2 (.inl ht), decide_eq_false fun e => h.new (by rw [← e]; exact ht)⟩, decide_eq_false fun e => hn (by rw [← e]; exact ht)⟩
  omega
/-- renaming, and renaming back -/
theorem back_ok {l m : List Bs} {fr to : Bs} (h : OkR l fr to) (hm : Srt m) (h1 : ∀ t, t ∈ m ↔ (t ∈ l ∧ bel t fr = false) ∨ ∃ s ∈ l, bel s fr = true ∧ t ∈ ch (mv fr to s)) (h2 : m.length ≤ 100) (hp : par to ≠ [] → par to ∈ l ∧ und (par to) fr = false) :
    OkR m to fr ∧ ∀ m', Srt m' → (∀ t, t ∈ m' ↔ (t ∈ m ∧ bel t to = false) ∨ ∃ s ∈ m, bel s to = true ∧ t ∈ ch (mv to fr s)) → m' = l := by
  have hto := isP_ne h.path
  have hfr := isP_ne (h.val.path fr h.mem)
  have hcl : Cl l := h.val.par
  -- nothing of the old list lies below the new name
  have hno : ∀ t ∈ l, bel t to = false := fun t ht => by
    cases e : bel t to
    · rfl
    · exact absurd (hcl.ch (fun _ => ht) _ (bel_mem e hto)) h.new
  have hpar : ∀ t ∈ ch (par to), t ∈ l := hcl.ch fun h' => (hp h').1
  -- what came in, and what it stands for
  have hin : ∀ s ∈ l, bel s fr = true → ∀ t ∈ ch (mv fr to s), (bel t to = true ∧ mv to fr t ∈ l) ∨ (t ∈ ch (par to)) := fun s hs hb t ht => by
    obtain ⟨x, hx, rfl⟩ := bel_iff.1 hb
    rw [mv_app] at ht
    rcases (mem_ch_app hto hx).1 ht with ⟨y, hy, rfl⟩ | h'
    · refine .inl ⟨bel_iff.2 ⟨y, sfs_ok _ _ hx y hy, rfl⟩, ?_⟩
      rw [mv_app]
      exact hcl.ch (fun _ => hs) _ ((mem_ch_app hfr hx).2 (.inl ⟨y, hy, rfl⟩))
    · exact .inr h'
  have hback : ∀ s ∈ m, bel s to = true → mv to fr s ∈ l := fun s hs hb => by
    rcases (h1 s).1 hs with ⟨a, _⟩ | ⟨s0, a, b, c⟩
    · rw [hno s a] at hb; cases hb
    · rcases hin s0 a b s c with ⟨_, h'⟩ | h'
      · exact h'
      · rw [hno s (hpar s h')] at hb; cases hb
  refine ⟨⟨val_r h hm h1 h2, ?_, fun e => h.new (by rw [e]; exact h.val.inb), h.val.path fr h.mem, hno fr h.mem, fun e => ?_, fun s hs hb => h.val.path _ (hback s hs hb)⟩, fun m' hs' h1' => ?_⟩
  · refine (h1 to).2 (.inr ⟨fr, h.mem, bel_self fr, ?_⟩)
    have : mv fr to fr = to := by simp [mv]
    rw [this]; exact ch_self hto
  · rcases (h1 fr).1 e with ⟨_, a⟩ | ⟨s, a, b, c⟩
    · rw [bel_self] at a; cases a
    · rcases hin s a b fr c with ⟨h', _⟩ | h'
      · rw [hno fr h.mem] at h'; cases h'
      · have hpt : par to ≠ [] := fun e0 => by rw [e0, ch_nil] at h'; simp at h'
        have := (hp hpt).2
        rw [und, has_iff.2 h'] at this; cases this
  · refine Srt.ext hs' h.val.srt fun t => ?_
    rw [h1']
    constructor
    · rintro (⟨a, b⟩ | ⟨s, a, b, c⟩)
      · rcases (h1 t).1 a with ⟨a, _⟩ | ⟨s0, a, c, d⟩
        · exact a
        · rcases hin s0 a c t d with ⟨h', _⟩ | h'
          · rw [b] at h'; cases h'
          · exact hpar t h'
      · exact hcl.ch (fun _ => hback s a b) t c
    · intro ht
      cases hb : bel t fr
      · exact .inl ⟨(h1 t).2 (.inl ⟨ht, hb⟩), hno t ht⟩
      · obtain ⟨x, hx, rfl⟩ := bel_iff.1 hb
        refine .inr ⟨to ++ x, (h1 _).2 (.inr ⟨_, ht, hb, ?_⟩), bel_iff.2 ⟨x, hx, rfl⟩, ?_⟩
        · rw [mv_app]; exact ch_self (by simp [hto])
        · rw [mv_app]; exact ch_self (by simp [hfr])
end Go.Proofs.YtnahhhaicalmcaaDoor
end
section
namespace Go.Proofs.YtnahhhaicalmcaaDoor
open Go.Ab
set_option linter.unusedVariables false
set_option linter.unusedSimpArgs false
set_option maxRecDepth 100000

/-- an answer of Create, Delete, Rename: an error, or a good list -/
def Ans (r : U) : Prop := (∃ c d, c ≠ 0 ∧ r = bad c d) ∨ ∃ z m, r = good z m ∧ Val m ∧ (∀ t ∈ m, t.length ≤ 4194304)
theorem ans_c {u : U} {l : List Bs} {s : Bs} (hu : Sl u l) (hl : l.length < 8796093022208) (hb : ∀ t ∈ l, t.length ≤ 1048576) (hs : s.length ≤ 1048576) : ∃ r, Fi K 6 [u, .S s] = some r ∧ Ans r := by
  have hb' : ∀ t ∈ l, t.length ≤ 4194304 := fun t ht => by have := hb t ht; omega
  by_cases h : OkC l s
  · obtain ⟨z, m, a1, a2, a3, a4⟩ := s6_ok hu hb' (by omega) h
    refine ⟨_, a4, ?_⟩
    by_cases hm : 100 < m.length
    · rw [decide_eq_true hm]; exact .inl ⟨2, -1, by omega, rfl⟩
    · rw [decide_eq_false hm]
      refine .inr ⟨z, m, rfl, val_c h a1 a2 (by omega), fun t ht => ?_⟩
      rcases (a2 t).1 ht with h' | h'
      · exact hb' t h'
      · have := ch_len _ _ _ h'; omega
  · obtain ⟨c, d, a1, a2⟩ := s6_bad hu hl hb' (by omega) h
    exact ⟨_, a2, .inl ⟨c, d, a1, rfl⟩⟩
theorem ans_d {u : U} {l : List Bs} {s : Bs} (hu : Sl u l) (hl : l.length < 8796093022208) (hb : ∀ t ∈ l, t.length ≤ 1048576) : ∃ r, Fi K 7 [u, .S s] = some r ∧ Ans r := by
  have hb' : ∀ t ∈ l, t.length ≤ 4194304 := fun t ht => by have := hb t ht; omega
  by_cases h : OkD l s
  · obtain ⟨z, a1, a2⟩ := s7_ok hu hb' h
    exact ⟨_, a2, .inr ⟨z, _, rfl, val_d h, fun t ht => hb' t (keep_mem.1 ht).1⟩⟩
  · obtain ⟨c, d, a1, a2⟩ := s7_bad hu hl hb' h
    exact ⟨_, a2, .inl ⟨c, d, a1, rfl⟩⟩
theorem ans_r {u : U} {l : List Bs} {fr to : Bs} (hu : Sl u l) (hl : l.length < 8796093022208) (hb : ∀ t ∈ l, t.length ≤ 1048576) (ht : to.length ≤ 1048576) : ∃ r, Fi K 8 [u, .S fr, .S to] = some r ∧ Ans r := by
  have hb' : ∀ t ∈ l, t.length ≤ 4194304 := fun t ht => by have := hb t ht; omega
  have hm' : ∀ t ∈ l, to.length + t.length ≤ 4194304 := fun t ht => by have := hb t ht; omega
  by_cases h : OkR l fr to
  · obtain ⟨z, m, a1, a2, a3, a4⟩ := s8_ok hu hb' hm' h
    refine ⟨_, a4, ?_⟩
    by_cases hm : 100 < m.length
    · rw [decide_eq_true hm]; exact .inl ⟨2, -1, by omega, rfl⟩
    · rw [decide_eq_false hm]
      refine .inr ⟨z, m, rfl, val_r h a1 a2 (by omega), fun t ht => ?_⟩
      rcases (a2 t).1 ht with h' | ⟨s, b, c, d⟩
      · exact hb' t h'.1
      · have := ch_len _ _ _ d
        have := hb s b
        rw [mv, List.length_append, List.length_drop] at *
        omega
  · obtain ⟨c, d, a1, a2⟩ := s8_bad hu hl hb' hm' (by omega) h
    exact ⟨_, a2, .inl ⟨c, d, a1, rfl⟩⟩
/-- an answer's list is good, or there is none -/
theorem ans_ok {r : U} (h : Ans r) : ∃ k v, (decide (((r.get 1).get 0).toI = 0)) = k ∧ (k = true → Fi K 10 [r.get 0] = some v ∧ (v.get 0).toI = 0) := by
  rcases h with ⟨c, d, hc, rfl⟩ | ⟨z, m, rfl, hv, hb⟩
  · refine ⟨false, .I 0, ?_, fun h => by cases h⟩
    exact decide_eq_false hc
  · obtain ⟨c, d, q1, q2⟩ := s10 (Is.mk' U.S z m) (by have := hv.len; omega) hb
    rcases q2 with ⟨rfl, rfl, _⟩ | ⟨_, h⟩
    · exact ⟨true, _, rfl, fun _ => ⟨q1, rfl⟩⟩
    · exact absurd hv h
theorem law3 {u : U} {l : List Bs} {s t : Bs} (hu : Sl u l) (hl : l.length < 8796093022208) (hb : ∀ t ∈ l, t.length ≤ 1048576) (hs : s.length ≤ 1048576) (ht : t.length ≤ 1048576) : Fi K 3 [u, .S s, .S t] = some (.B true) := by
  obtain ⟨r1, a1, b1⟩ := ans_c hu hl hb hs
  obtain ⟨r2, a2, b2⟩ := ans_d (s := s) hu hl hb
  obtain ⟨r3, a3, b3⟩ := ans_r (fr := s) hu hl hb ht
  obtain ⟨k1, v1, c1, d1⟩ := ans_ok b1
  obtain ⟨k2, v2, c2, d2⟩ := ans_ok b2
  obtain ⟨k3, v3, c3, d3⟩ := ans_ok b3
  refine e3 _ _ _ ?_
  simp only [a1, a2, a3, s9, Option.bind_some, c1, c2, c3]
  have z0 : (decide ((0 : Int) = 0)) = true := rfl
  cases k1 <;> cases k2 <;> cases k3 <;> simp_all
theorem law5 {u : U} {l : List Bs} {s : Bs} (hu : Sl u l) (hl : l.length < 8796093022208) (hb : ∀ t ∈ l, t.length ≤ 1048576) (hs : s.length ≤ 1048576) : Fi K 5 [u, .S s] = some (.B true) := by
  have hb' : ∀ t ∈ l, t.length ≤ 4194304 := fun t ht => by have := hb t ht; omega
  refine e5 _ _ ?_
  rw [s9, Option.bind_some]
  show (bif !true then _ else _) = _
  rw [Bool.not_true, cond_false]
  have hbad : ∀ c d, c ≠ 0 → (!decide (((((bad c d).get 1)).get 0).toI = 0)) = true := fun c d h => by
    show (!decide (c = 0)) = true
    rw [decide_eq_false h]; rfl
  by_cases h : OkC l s
  · obtain ⟨z, m, a1, a2, a3, a4⟩ := s6_ok hu hb' (by omega) h
    rw [a4, Option.bind_some]
    by_cases hm : 100 < m.length
    · rw [decide_eq_true hm, cond_true, hbad 2 (-1) (by omega), cond_true]
      rfl
    · rw [decide_eq_false hm, cond_false]
      have hbm : ∀ t ∈ m, t.length ≤ 4194304 := fun t ht => by
        rcases (a2 t).1 ht with h' | h'
        · exact hb' t h'
        · have := ch_len _ _ _ h'; omega
      have g0 : (!decide ((((good z m).get 1).get 0).toI = 0)) = false := rfl
      have g1 : (good z m).get 0 = .ofL z (m.map U.S) := rfl
      have g2 : ((((good z m).get 0).len : Nat) : Int) = ((m.length : Nat) : Int) := by rw [g1, len_ofL', List.length_map]
      rw [g0, cond_false, s11 (by omega), Option.bind_some, toS_S]
      have q12 := s12 (par s) hu.is (by omega)
      by_cases hc : par s ≠ [] ∧ par s ∉ l
      · have hh : has l (par s) = false := by
          cases e : has l (par s)
          · rfl
          · exact absurd (has_iff.1 e) hc.2
        have hmore := more h a1 a2 hc.1 hc.2
        simp only [hc.1, decide_false, Bool.not_false, cond_true, Option.bind_some, toS_S, q12, hh, toB_B, Bool.and_self]
        rw [hu.is.len, w64s (by omega), g2]
        have : ((l.length + 1 : Nat) : Int) < ((m.length : Nat) : Int) := by omega
        rw [decide_eq_true this]
      · have hp : par s ≠ [] → par s ∈ l := fun h' => by
          by_cases e : par s ∈ l
          · exact e
          · exact absurd ⟨h', e⟩ hc
        obtain ⟨o1, o2⟩ := undo_ok h a1 a2 (by omega) hp
        obtain ⟨z2, b1, b2⟩ := s7_ok (Sl.mk' (b := z) (l := m) a3) hbm o1
        rw [o2] at b1 b2
        have q14 : Fi K 14 [(good z2 l).get 0, u] = some (.B true) := by
          rw [show (good z2 l).get 0 = .ofL z2 (l.map U.S) from rfl, s14 (Is.mk' _ _ _) hu.is (by omega)]
          simp
        have fin : ((Fi K 7 [(good z m).get 0, .S s]).bind fun r6 => (bif (decide (((r6.get 1).get 0).toI = 0)) then Fi K 14 [(r6.get 0), u] else some (U.I 0)).bind fun r7 => some (U.B ((decide (((r6.get 1).get 0).toI = 0)) && r7.toB))) = some (.B true) := by
          rw [g1, b2, Option.bind_some]
          show ((bif decide ((0 : Int) = 0) then _ else _) : Option U).bind _ = _
          rw [decide_eq_true rfl, cond_true, q14]
          rfl
        by_cases hpe : par s = []
        · simp only [hpe, decide_true, Bool.not_true, Bool.false_and, cond_false, Option.bind_some]
          exact fin
        · have hh : has l (par s) = true := has_iff.2 (hp hpe)
          simp only [hpe, decide_false, Bool.not_false, cond_true, Option.bind_some, toS_S, q12, hh, toB_B, Bool.not_true, Bool.and_false, cond_false]
          exact fin
  · obtain ⟨c, d, a1, a2⟩ := s6_bad hu hl hb' (by omega) h
    rw [a2, Option.bind_some, hbad c d a1, cond_true]
    rfl
theorem law4 {u : U} {l : List Bs} {fr to : Bs} (hu : Sl u l) (hl : l.length < 8796093022208) (hb : ∀ t ∈ l, t.length ≤ 1048576) (hfr : fr.length ≤ 1048576) (hto : to.length ≤ 1048576) : Fi K 4 [u, .S fr, .S to] = some (.B true) := by
  have hb' : ∀ t ∈ l, t.length ≤ 4194304 := fun t ht => by have := hb t ht; omega
  have hm' : ∀ t ∈ l, to.length + t.length ≤ 4194304 := fun t ht => by have := hb t ht; omega
  refine e4 _ _ _ ?_
  rw [s9, Option.bind_some]
  show (bif !true then _ else _) = _
  rw [Bool.not_true, cond_false]
  have hbad : ∀ c d, c ≠ 0 → (!decide (((((bad c d).get 1)).get 0).toI = 0)) = true := fun c d h => by
    show (!decide (c = 0)) = true
    rw [decide_eq_false h]; rfl
  by_cases h : OkR l fr to
  · obtain ⟨z, m, a1, a2, a3, a4⟩ := s8_ok hu hb' hm' h
    rw [a4, Option.bind_some]
    by_cases hm : 100 < m.length
    · rw [decide_eq_true hm, cond_true, hbad 2 (-1) (by omega), cond_true]
      rfl
    · rw [decide_eq_false hm, cond_false]
      have hbm : ∀ t ∈ m, t.length ≤ 2097152 := fun t ht => by
        rcases (a2 t).1 ht with h' | ⟨s, b, c, d⟩
        · have := hb t h'.1; omega
        · have := ch_len _ _ _ d
          have := hb s b
          rw [mv, List.length_append, List.length_drop] at *
          omega
      have g0 : (!decide ((((good z m).get 1).get 0).toI = 0)) = false := rfl
      have g1 : (good z m).get 0 = .ofL z (m.map U.S) := rfl
      have hpl := par_len to
      rw [g0, cond_false, s11 (by omega), Option.bind_some, toS_S]
      have q12 := s12 (par to) hu.is (by omega)
      have q13 := s13 (s := par to) fr (by omega)
      have fin : (par to ≠ [] → par to ∈ l ∧ und (par to) fr = false) → ((Fi K 8 [(good z m).get 0, .S to, .S fr]).bind fun r8 => (bif (decide (((r8.get 1).get 0).toI = 0)) then Fi K 14 [(r8.get 0), u] else some (U.I 0)).bind fun r9 => some (U.B ((decide (((r8.get 1).get 0).toI = 0)) && r9.toB))) = some (.B true) := fun hp => by
        obtain ⟨o1, o2⟩ := back_ok h a1 a2 (by omega) hp
        obtain ⟨z2, m2, b1, b2, b3, b4⟩ := s8_ok (Sl.mk' (b := z) (l := m) a3) (fun t ht => by have := hbm t ht; omega) (fun t ht => by have := hbm t ht; omega) o1
        have hml := o2 m2 b1 b2
        subst hml
        have hlen := h.val.len
        rw [g1, b4, decide_eq_false (by omega), cond_false, Option.bind_some]
        have q14 : Fi K 14 [(good z2 m2).get 0, u] = some (.B true) := by
          rw [show (good z2 m2).get 0 = .ofL z2 (m2.map U.S) from rfl, s14 (Is.mk' _ _ _) hu.is (by omega)]
          simp
        show ((bif decide ((0 : Int) = 0) then _ else _) : Option U).bind _ = _
        rw [decide_eq_true rfl, cond_true, q14]
        rfl
      by_cases hpe : par to = []
      · simp only [hpe, decide_true, Bool.not_true, Bool.false_and, cond_false, Option.bind_some]
        exact fin fun h' => absurd hpe h'
      · cases hh : has l (par to)
        · simp only [hpe, decide_false, Bool.not_false, cond_true, Option.bind_some, toS_S, q12, hh, toB_B, Bool.not_true, Bool.and_false, Bool.and_true, Bool.true_and, Bool.true_or, cond_false]
        · cases hun : und (par to) fr
          · simp only [hpe, decide_false, Bool.not_false, cond_true, Option.bind_some, toS_S, q12, q13, hh, hun, toB_B, Bool.not_true, Bool.and_false, Bool.and_true, Bool.true_and, Bool.or_self, cond_false, Bool.not_not]
            exact fin fun _ => ⟨has_iff.1 hh, hun⟩
          · simp only [hpe, decide_false, Bool.not_false, cond_true, Option.bind_some, toS_S, q12, q13, hh, hun, toB_B, Bool.not_true, Bool.and_false, Bool.and_true, Bool.true_and, Bool.or_true, cond_false, Bool.not_not]
  · obtain ⟨c, d, a1, a2⟩ := s8_bad hu hl hb' hm' (by omega) h
    rw [a2, Option.bind_some, hbad c d a1, cond_true]
    rfl
end Go.Proofs.YtnahhhaicalmcaaDoor
end
