/- Templates: a state is boiled down to data and made anew. -/
import Derived.Test.YtnahhhaicalmcaaDoorAbImp5
set_option linter.unusedVariables false
set_option linter.unusedSimpArgs false
namespace Go.Ab
open Go.RowKit
variable {C : Ctx} {P : Program}

/-- the data lie at these places -/
def Holds (p q : JP) (n m : Nat) : Prop := (∀ i, i < q.us.length → U.nth p.us (n + i) = U.nth q.us i) ∧ ∀ i, i < q.ls.length → nthL p.ls (m + i) = nthL q.ls i
theorem nthL_append (a b : List (List U)) (i : Nat) : nthL (a ++ b) i = if i < a.length then nthL a i else nthL b (i - a.length) := by
  induction a generalizing i with
  | nil => simp
  | cons x a ih => cases i with
    | zero => simp [nthL]
    | succ i => simp [nthL, ih]
theorem Holds.split {p q r : JP} {n m : Nat} (h : Holds p ⟨q.us ++ r.us, q.ls ++ r.ls⟩ n m) : Holds p q n m ∧ Holds p r (n + q.us.length) (m + q.ls.length) := by
  refine ⟨⟨fun i hi => ?_, fun i hi => ?_⟩, ⟨fun i hi => ?_, fun i hi => ?_⟩⟩
  · have := h.1 i (by simp; omega)
    rw [this]; simp [nth_append, hi]
  · have := h.2 i (by simp; omega)
    rw [this]; simp [nthL_append, hi]
  · have := h.1 (q.us.length + i) (by simp; omega)
    rw [Nat.add_assoc, this]; simp only [nth_append]; rw [if_neg (by omega)]; congr 1; omega
  · have := h.2 (q.ls.length + i) (by simp; omega)
    rw [Nat.add_assoc, this]; simp only [nthL_append]; rw [if_neg (by omega)]; congr 1; omega

theorem packC_len : ∀ {cs : List CSh} {l : List Cap} {us : List U}, packC cs l = some us → us.length = nuC cs
  | [], [], us, h => by simp [packC] at h; subst h; rfl
  | .own _ :: cs, .own _ :: l, us, h => by simp only [packC] at h; simpa [nuC] using packC_len h
  | .ro t :: cs, .ro t' u :: l, us, h => by
    simp only [packC] at h
    obtain ⟨_, h⟩ := cond_some h
    simp only [Option.map_eq_some_iff] at h
    obtain ⟨us', h1, rfl⟩ := h
    simpa [nuC] using packC_len h1
  | [], _ :: _, us, h => by simp [packC] at h
  | .own _ :: _, [], us, h => by simp [packC] at h
  | .own _ :: _, .ro _ _ :: _, us, h => by simp [packC] at h
  | .ro _ :: _, [], us, h => by simp [packC] at h
  | .ro _ :: _, .own _ :: _, us, h => by simp [packC] at h
mutual
theorem packS_len {st : St} : ∀ {sh : Sh} {x : AV} {q : JP}, packS C st sh x = some q → q.us.length = nuS sh ∧ q.ls.length = nlS sh
  | .pb i t fs, x, q, h => by
    cases x with
    | pb id p =>
      cases p with
      | cons _ _ => simp [packS] at h
      | nil =>
        simp only [packS] at h
        cases hs : st.sto id with
        | none => simp [hs] at h
        | some b => cases b with
          | box t' vs =>
            simp only [hs] at h
            obtain ⟨_, h⟩ := cond_some h
            simpa [nuS, nlS] using packL_len h
          | _ => simp [hs] at h
    | _ => simp [packS] at h
  | .ow i e, x, q, h => by
    cases x with
    | ow id r =>
      cases r with
      | some _ => simp [packS] at h
      | none =>
        simp only [packS] at h
        cases hs : st.sto id with
        | none => simp [hs] at h
        | some b => cases b with
          | arr e' z' xs =>
            simp only [hs] at h
            obtain ⟨_, h⟩ := cond_some h
            cases h; simp [nuS, nlS]
          | _ => simp [hs] at h
    | nl => simp only [packS] at h; obtain ⟨_, h⟩ := cond_some h; cases h; simp [nuS, nlS]
    | _ => simp [packS] at h
  | .i k, x, q, h => by cases x <;> simp [packS] at h; obtain ⟨_, rfl⟩ := (show _ ∧ _ from by simpa using cond_some h); simp [nuS, nlS]
  | .b, x, q, h => by cases x <;> simp [packS] at h; subst h; simp [nuS, nlS]
  | .s, x, q, h => by cases x <;> simp [packS] at h; subst h; simp [nuS, nlS]
  | .sl e, x, q, h => by
    cases x <;> simp only [packS] at h <;> first | (cases h; done) | skip
    · cases h; simp [nuS, nlS]
    · obtain ⟨_, h⟩ := cond_some h; cases h; simp [nuS, nlS]
  | .st t, x, q, h => by cases x <;> simp only [packS] at h <;> first | (cases h; done) | (obtain ⟨_, h⟩ := cond_some h; cases h; simp [nuS, nlS])
  | .fn t, x, q, h => by cases x <;> simp only [packS] at h <;> first | (cases h; done) | (obtain ⟨_, h⟩ := cond_some h; cases h; simp [nuS, nlS])
  | .rp t, x, q, h => by cases x <;> simp only [packS] at h <;> first | (cases h; done) | (obtain ⟨_, h⟩ := cond_some h; cases h; simp [nuS, nlS])
  | .cf f, x, q, h => by
    cases x with
    | clo f' caps => cases caps with
      | nil => simp only [packS] at h; obtain ⟨_, h⟩ := cond_some h; cases h; simp [nuS, nlS]
      | cons _ _ => simp [packS] at h
    | _ => simp [packS] at h
  | .cl f cs, x, q, h => by
    cases x with
    | clo f' caps =>
      simp only [packS] at h
      obtain ⟨_, h⟩ := cond_some h
      simp only [Option.map_eq_some_iff] at h
      obtain ⟨us, h1, rfl⟩ := h
      simp [nuS, nlS, packC_len h1]
    | _ => simp [packS] at h
  | .mp i t, x, q, h => by
    cases x with
    | mp id =>
      simp only [packS] at h
      cases hs : st.sto id with
      | none => simp [hs] at h
      | some b => cases b with
        | mp t' es =>
          simp only [hs] at h
          obtain ⟨_, h⟩ := cond_some h
          cases h; simp [nuS, nlS]
        | _ => simp [hs] at h
    | _ => simp [packS] at h
  | .any, x, q, h => by simp [packS] at h; subst h; simp [nuS, nlS]
theorem packL_len {st : St} : ∀ {ss : List Sh} {xs : List AV} {q : JP}, packL C st ss xs = some q → q.us.length = nuL ss ∧ q.ls.length = nlL ss
  | [], [], q, h => by simp [packL] at h; subst h; simp [nuL, nlL]
  | sh :: ss, x :: xs, q, h => by
    simp only [packL] at h
    cases h1 : packS C st sh x with
    | none => simp [h1] at h
    | some q1 =>
      cases h2 : packL C st ss xs with
      | none => simp [h1, h2] at h
      | some q2 =>
        simp [h1, h2] at h; subst h
        obtain ⟨a1, a2⟩ := packS_len h1
        obtain ⟨b1, b2⟩ := packL_len h2
        simp [nuL, nlL, a1, a2, b1, b2]
  | [], _ :: _, q, h => by simp [packL] at h
  | _ :: _, [], q, h => by simp [packL] at h
end

/-- how the blocks of a template stand to those of before -/
def Ct (C : Ctx) (st : St) (p : JP) (tm : List (Nat × Option Nat)) (cm : List (Nat × Nat)) (o : Option Nat) (blk : Blk) : Prop :=
  match o with
  | none => ∃ e ty, blk = .arr e true [] ∧ C.te e = some ty
  | some id => (∃ e z xs, st.sto id = some (.arr e z xs) ∧ blk = .arr e z xs) ∨ (∃ t us, st.sto id = some (.mp t us) ∧ blk = .mp t us) ∨
      ∃ t vs fs n m q, st.sto id = some (.box t vs) ∧ blk = .box t (avL p fs n) ∧ packL C st fs vs = some q ∧ Holds p q n m ∧ (∀ e ∈ tmL st fs vs, e ∈ tm) ∧ ∀ e ∈ cmL st fs vs, e ∈ cm

mutual
theorem stS_spec {st : St} {p : JP} {tm : List (Nat × Option Nat)} {cm : List (Nat × Nat)} : ∀ {sh : Sh} {x : AV} {q : JP} {n m : Nat} {S0 : Sto}, packS C st sh x = some q → Holds p q n m → (∀ e ∈ tmS st sh x, e ∈ tm) → (∀ e ∈ cmS st sh x, e ∈ cm) → distinct ((tmS st sh x).map (·.1)) = true →
    (∀ tid o, (tid, o) ∈ tmS st sh x → ∃ blk, stS p sh n m S0 tid = some blk ∧ Ct C st p tm cm o blk) ∧ ∀ tid, tid ∉ (tmS st sh x).map (·.1) → stS p sh n m S0 tid = S0 tid
  | .pb i t fs, x, q, n, m, S0, h, hh, ht, hcm, hd => by
    cases x with
    | pb id pp =>
      cases pp with
      | cons _ _ => simp [packS] at h
      | nil =>
        simp only [packS] at h
        cases hs : st.sto id with
        | none => simp [hs] at h
        | some b => cases b with
          | box t' vs =>
            simp only [hs] at h
            obtain ⟨hc, hP⟩ := cond_some h
            clear h
            simp only [nbeq, decide_eq_true_eq] at hc
            subst hc
            simp only [tmS, hs, List.map_cons] at ht hd ⊢
            simp only [cmS, hs] at hcm
            obtain ⟨hd1, hd2⟩ := distinct_cons hd
            obtain ⟨k1, k2⟩ := stL_spec (S0 := S0) hP hh (fun e he => ht e (List.mem_cons_of_mem _ he)) hcm hd2
            refine ⟨fun tid o hm => ?_, fun tid hm => ?_⟩
            · simp only [List.mem_cons, Prod.mk.injEq] at hm
              rcases hm with ⟨rfl, rfl⟩ | hm
              · exact ⟨.box t (avL p fs n), by simp [stS, nbeq], .inr (.inr ⟨t, vs, fs, n, m, q, hs, rfl, hP, hh, fun e he => ht e (List.mem_cons_of_mem _ he), hcm⟩)⟩
              · obtain ⟨blk, b1, b2⟩ := k1 tid o hm
                have hne : tid ≠ i := fun e => hd1 (by rw [← e]; exact List.mem_map.2 ⟨_, hm, rfl⟩)
                exact ⟨blk, by simpa [stS, nbeq, hne] using b1, b2⟩
            · simp only [List.mem_cons, not_or] at hm
              have := k2 tid hm.2
              simpa [stS, nbeq, hm.1] using this
          | _ => simp [hs] at h
    | _ => simp [packS] at h
  | .ow i e, x, q, n, m, S0, h, hh, ht, hcm, hd => by
    cases x with
    | ow id r =>
      cases r with
      | some _ => simp [packS] at h
      | none =>
        simp only [packS] at h
        cases hs : st.sto id with
        | none => simp [hs] at h
        | some b => cases b with
          | arr e' z' xs =>
            simp only [hs] at h
            obtain ⟨hc, hP⟩ := cond_some h
            clear h
            simp only [nbeq, decide_eq_true_eq] at hc
            subst hc
            cases hP
            have hx : nthL p.ls m = xs := by simpa [nthL] using hh.2 0 (by simp)
            have hz : (U.nth p.us n).toB = z' := by rw [show U.nth p.us n = .B z' by simpa [U.nth] using hh.1 0 (by simp)]; rfl
            refine ⟨fun tid o hm => ?_, fun tid hm => ?_⟩
            · simp only [tmS, List.mem_singleton, Prod.mk.injEq] at hm
              obtain ⟨rfl, rfl⟩ := hm
              exact ⟨.arr e z' xs, by simp [stS, nbeq, hx, hz], .inl ⟨e, z', xs, hs, rfl⟩⟩
            · simp only [tmS, List.map_cons, List.map_nil, List.mem_singleton] at hm
              simp [stS, nbeq, hm]
          | _ => simp [hs] at h
    | nl =>
      simp only [packS] at h
      obtain ⟨hc, h⟩ := cond_some h
      cases h
      obtain ⟨ty, hty⟩ := Option.isSome_iff_exists.1 hc
      have hx : nthL p.ls m = [] := by simpa [nthL] using hh.2 0 (by simp)
      have hz : (U.nth p.us n).toB = true := by rw [show U.nth p.us n = .B true by simpa [U.nth] using hh.1 0 (by simp)]; rfl
      refine ⟨fun tid o hm => ?_, fun tid hm => ?_⟩
      · simp only [tmS, List.mem_singleton, Prod.mk.injEq] at hm
        obtain ⟨rfl, rfl⟩ := hm
        exact ⟨.arr e true [], by simp [stS, nbeq, hx, hz], ⟨e, ty, rfl, hty⟩⟩
      · simp only [tmS, List.map_cons, List.map_nil, List.mem_singleton] at hm
        simp [stS, nbeq, hm]
    | _ => simp [packS] at h
  | .i _, x, q, n, m, S0, h, hh, ht, hcm, hd => by simp [tmS, stS]
  | .b, x, q, n, m, S0, h, hh, ht, hcm, hd => by simp [tmS, stS]
  | .s, x, q, n, m, S0, h, hh, ht, hcm, hd => by simp [tmS, stS]
  | .sl _, x, q, n, m, S0, h, hh, ht, hcm, hd => by simp [tmS, stS]
  | .st _, x, q, n, m, S0, h, hh, ht, hcm, hd => by simp [tmS, stS]
  | .fn _, x, q, n, m, S0, h, hh, ht, hcm, hd => by simp [tmS, stS]
  | .rp _, x, q, n, m, S0, h, hh, ht, hcm, hd => by simp [tmS, stS]
  | .cf _, x, q, n, m, S0, h, hh, ht, hcm, hd => by simp [tmS, stS]
  | .cl _ _, x, q, n, m, S0, h, hh, ht, hcm, hd => by simp [tmS, stS]
  | .mp i t, x, q, n, m, S0, h, hh, ht, hcm, hd => by
    cases x with
    | mp id =>
      simp only [packS] at h
      cases hs : st.sto id with
      | none => simp [hs] at h
      | some b => cases b with
        | mp t' es =>
          simp only [hs] at h
          obtain ⟨hc, hP⟩ := cond_some h
          clear h
          simp only [nbeq, decide_eq_true_eq] at hc
          subst hc
          cases hP
          have hx : nthL p.ls m = es := by simpa [nthL] using hh.2 0 (by simp)
          refine ⟨fun tid o hm => ?_, fun tid hm => ?_⟩
          · simp only [tmS, List.mem_singleton, Prod.mk.injEq] at hm
            obtain ⟨rfl, rfl⟩ := hm
            exact ⟨.mp t es, by simp [stS, nbeq, hx], .inr (.inl ⟨t, es, hs, rfl⟩)⟩
          · simp only [tmS, List.map_cons, List.map_nil, List.mem_singleton] at hm
            simp [stS, nbeq, hm]
        | _ => simp [hs] at h
    | _ => simp [packS] at h
  | .any, x, q, n, m, S0, h, hh, ht, hcm, hd => by simp [tmS, stS]
theorem stL_spec {st : St} {p : JP} {tm : List (Nat × Option Nat)} {cm : List (Nat × Nat)} : ∀ {ss : List Sh} {xs : List AV} {q : JP} {n m : Nat} {S0 : Sto}, packL C st ss xs = some q → Holds p q n m → (∀ e ∈ tmL st ss xs, e ∈ tm) → (∀ e ∈ cmL st ss xs, e ∈ cm) → distinct ((tmL st ss xs).map (·.1)) = true →
    (∀ tid o, (tid, o) ∈ tmL st ss xs → ∃ blk, stL p ss n m S0 tid = some blk ∧ Ct C st p tm cm o blk) ∧ ∀ tid, tid ∉ (tmL st ss xs).map (·.1) → stL p ss n m S0 tid = S0 tid
  | [], [], q, n, m, S0, h, hh, ht, hcm, hd => by simp [tmL, stL]
  | sh :: ss, x :: xs, q, n, m, S0, h, hh, ht, hcm, hd => by
    simp only [packL] at h
    cases h1 : packS C st sh x with
    | none => simp [h1] at h
    | some q1 =>
      cases h2 : packL C st ss xs with
      | none => simp [h1, h2] at h
      | some q2 =>
        simp [h1, h2] at h; subst h
        obtain ⟨l1, l2⟩ := packS_len h1
        obtain ⟨g1, g2⟩ := hh.split
        rw [l1, l2] at g2
        simp only [tmL, List.map_append] at ht hd ⊢
        simp only [cmL] at hcm
        obtain ⟨d1, d2, d3⟩ := distinct_append hd
        obtain ⟨a1, a2⟩ := stS_spec (S0 := S0) h1 g1 (fun e he => ht e (List.mem_append_left _ he)) (fun e he => hcm e (List.mem_append_left _ he)) d1
        obtain ⟨b1, b2⟩ := stL_spec (S0 := stS p sh n m S0) h2 g2 (fun e he => ht e (List.mem_append_right _ he)) (fun e he => hcm e (List.mem_append_right _ he)) d2
        refine ⟨fun tid o hm => ?_, fun tid hm => ?_⟩
        · rcases List.mem_append.1 hm with hm | hm
          · obtain ⟨blk, c1, c2⟩ := a1 tid o hm
            have hn : tid ∉ (tmL st ss xs).map (·.1) := d3 tid (List.mem_map.2 ⟨_, hm, rfl⟩)
            exact ⟨blk, by rw [stL, b2 tid hn]; exact c1, c2⟩
          · obtain ⟨blk, c1, c2⟩ := b1 tid o hm
            exact ⟨blk, by rw [stL]; exact c1, c2⟩
        · simp only [List.mem_append, not_or] at hm
          rw [stL, b2 tid hm.2]
          exact a2 tid hm.1
  | [], _ :: _, q, n, m, S0, h, hh, ht, hcm, hd => by simp [packL] at h
  | _ :: _, [], q, n, m, S0, h, hh, ht, hcm, hd => by simp [packL] at h
end

/-- the new names are good -/
def Good (C : Ctx) (ι ι' : Own) (st : St) (S : Sto) (p : JP) (tm0 : List (Nat × Option Nat)) (cm0 : List (Nat × Nat)) (tm : List (Nat × Option Nat)) : Prop :=
  ∀ tid o, (tid, o) ∈ tm → ι' tid = (match o with | some id => ι id | none => .slice none 0 0) ∧ ∃ blk, S tid = some blk ∧ Ct C st p tm0 cm0 o blk
/-- what closures' variables lead to -/
def GoodC (C : Ctx) (ι ι' : Own) (st : St) (S : Sto) (p : JP) (tm0 : List (Nat × Option Nat)) (cm0 cm : List (Nat × Nat)) : Prop :=
  ∀ e ∈ cm, ι' e.1 = ι e.2 ∧ ∃ blk, S e.1 = some blk ∧ Ct C st p tm0 cm0 (some e.2) blk

theorem caps_rep {H H' : View} (hH : H.le H') {ι ι' : Own} {st : St} {S : Sto} {p : JP} {tm0 : List (Nat × Option Nat)} {cm0 : List (Nat × Nat)} : ∀ {cs : List CSh} {caps : List Cap} {us : List U} {vs : List Value} {n : Nat}, packC cs caps = some us → (∀ i, i < us.length → U.nth p.us (n + i) = U.nth us i) → GoodC C ι ι' st S p tm0 cm0 (cmC cs caps) →
    RepCaps C H ι st.sto caps vs → RepCaps C H' ι' S (avC p cs n) vs
  | [], [], us, [], n, h, hh, hg, r => trivial
  | [], [], us, _ :: _, n, h, hh, hg, r => r.elim
  | .own i :: cs, .own id :: l, us, v :: vs, n, h, hh, hg, r => by
    simp only [packC] at h
    refine ⟨?_, caps_rep hH h hh (fun e he => hg e (by simp [cmC, he])) r.2⟩
    obtain ⟨g1, blk, g2, g3⟩ := hg (i, id) (by simp [cmC])
    have r1 : RepPb C ι st.sto id [] v := r.1
    show RepPb C ι' S i [] v
    unfold RepPb at r1 ⊢
    rcases g3 with ⟨e', z', xs, c1, rfl⟩ | ⟨t, us', c1, rfl⟩ | ⟨t2, vs2, fs2, n', m', q', c1, rfl, _⟩
    · rw [c1] at r1; exact r1.elim
    · rw [c1] at r1; exact r1.elim
    · rw [c1] at r1
      rw [g2]
      obtain ⟨_, g, r2, r3⟩ := r1
      exact ⟨trivial, g, by rw [g1]; exact r2, by simpa [poff] using r3⟩
  | .ro t :: cs, .ro t' u :: l, us, v :: vs, n, h, hh, hg, r => by
    simp only [packC] at h
    obtain ⟨hc, h⟩ := cond_some h
    simp only [Option.map_eq_some_iff] at h
    obtain ⟨us', h1, rfl⟩ := h
    simp only [nbeq, decide_eq_true_eq] at hc
    subst hc
    have h0 : U.nth p.us n = u := by simpa [U.nth] using hh 0 (by simp)
    refine ⟨?_, caps_rep hH h1 (fun i hi => by
      have := hh (i + 1) (by simpa using hi)
      simpa [U.nth, Nat.add_assoc, Nat.add_comm 1 i] using this) (fun e he => hg e (by simpa [cmC] using he)) r.2⟩
    have r1 : RepPtr C H t u v := r.1
    show RepPtr C H' t (U.nth p.us n) v
    rw [h0]
    exact r1.mono hH
  | [], _ :: _, us, vs, n, h, hh, hg, r => by simp [packC] at h
  | .own _ :: _, [], us, vs, n, h, hh, hg, r => by simp [packC] at h
  | .own _ :: _, .ro _ _ :: _, us, vs, n, h, hh, hg, r => by simp [packC] at h
  | .ro _ :: _, [], us, vs, n, h, hh, hg, r => by simp [packC] at h
  | .ro _ :: _, .own _ :: _, us, vs, n, h, hh, hg, r => by simp [packC] at h
  | .own _ :: _, .own _ :: _, us, [], n, h, hh, hg, r => r.elim
  | .ro _ :: _, .ro _ _ :: _, us, [], n, h, hh, hg, r => r.elim
theorem av_rep {H H' : View} (hH : H.le H') {ι ι' : Own} {st : St} {S : Sto} {p q : JP} {tm0 : List (Nat × Option Nat)} {cm0 : List (Nat × Nat)} {sh : Sh} {x : AV} {n m : Nat} (h : packS C st sh x = some q) (hh : Holds p q n m) (hg : Good C ι ι' st S p tm0 cm0 (tmS st sh x)) (hgc : GoodC C ι ι' st S p tm0 cm0 (cmS st sh x)) {v : Value}
    (r : RepA C H ι st.sto x v) : RepA C H' ι' S (avS p sh n) v ∧ ∀ u, (avS p sh n).flat = some u → x.flat = some u := by
  cases sh with
  | any => exact ⟨trivial, fun u hu => by simp [avS, AV.flat] at hu⟩
  | ow i e =>
    refine ⟨?_, fun u hu => by simp [avS, AV.flat] at hu⟩
    show RepOw C ι' S i none v
    unfold RepOw
    cases x with
    | ow id r' =>
      cases r' with
      | some _ => simp [packS] at h
      | none =>
        obtain ⟨g1, blk, g2, g3⟩ := hg i (some id) (by simp [tmS])
        rcases g3 with ⟨e', z', xs, c1, rfl⟩ | ⟨t, us, c1, _⟩ | ⟨t, vs, fs, n', m', q', c1, _⟩
        · rw [g2]
          have r : RepOw C ι st.sto id none v := r
          unfold RepOw at r
          rw [c1] at r
          simp only at r g1 ⊢
          rw [r, g1]
        · simp [packS, c1] at h
        · simp [packS, c1] at h
    | nl =>
      obtain ⟨g1, blk, g2, ⟨e', ty, rfl, _⟩⟩ := hg i none (by simp [tmS])
      rw [g2]
      simp only at g1 ⊢
      rw [g1]
      exact r
    | _ => simp [packS] at h
  | pb i t fs =>
    refine ⟨?_, fun u hu => by simp [avS, AV.flat] at hu⟩
    show RepPb C ι' S i [] v
    unfold RepPb
    cases x with
    | pb id pp =>
      cases pp with
      | cons _ _ => simp [packS] at h
      | nil =>
        cases hs : st.sto id with
        | none => simp [packS, hs] at h
        | some b =>
          cases b with
          | box t' vs =>
            obtain ⟨g1, blk, g2, g3⟩ := hg i (some id) (by simp [tmS, hs])
            rcases g3 with ⟨e', z', xs, c1, rfl⟩ | ⟨t2, us2, c1, rfl⟩ | ⟨t2, vs2, fs2, n', m', q', c1, rfl, _⟩
            · rw [hs] at c1; cases c1
            · rw [hs] at c1; cases c1
            · rw [g2]
              have r : RepPb C ι st.sto id [] v := r
              unfold RepPb at r
              rw [hs] at r
              obtain ⟨_, g, r1, r2⟩ := r
              exact ⟨trivial, g, by rw [g1]; exact r1, by simpa [poff] using r2⟩
          | _ => simp [packS, hs] at h
    | _ => simp [packS] at h
  | cf f =>
    refine ⟨?_, fun u hu => by simp [avS, AV.flat] at hu⟩
    cases x with
    | clo f' caps =>
      cases caps with
      | nil =>
        simp only [packS] at h
        obtain ⟨hc, _⟩ := cond_some h
        simp only [nbeq, decide_eq_true_eq] at hc
        subst hc
        obtain ⟨vs, h1, h2⟩ := r
        cases vs with
        | nil => exact ⟨[], h1, trivial⟩
        | cons _ _ => exact h2.elim
      | cons _ _ => simp [packS] at h
    | _ => simp [packS] at h
  | cl f cs =>
    refine ⟨?_, fun u hu => by simp [avS, AV.flat] at hu⟩
    cases x with
    | clo f' caps =>
      simp only [packS] at h
      obtain ⟨hc, h⟩ := cond_some h
      simp only [Option.map_eq_some_iff] at h
      obtain ⟨us, h1, rfl⟩ := h
      simp only [nbeq, decide_eq_true_eq] at hc
      subst hc
      obtain ⟨vs, r1, r2⟩ := r
      exact ⟨vs, r1, caps_rep hH h1 (fun i hi => hh.1 i hi) (by simpa [cmS] using hgc) r2⟩
    | _ => simp [packS] at h
  | mp i t =>
    refine ⟨?_, fun u hu => by simp [avS, AV.flat] at hu⟩
    cases x with
    | mp id =>
      show RepMp ι' S i v
      have r : RepMp ι st.sto id v := r
      unfold RepMp at r ⊢
      obtain ⟨g1, blk, g2, g3⟩ := hg i (some id) (by simp [tmS])
      rcases g3 with ⟨e', z', xs, c1, rfl⟩ | ⟨t, us, c1, rfl⟩ | ⟨t, vs, fs, n', m', q', c1, _⟩
      · simp [packS, c1] at h
      · rw [c1] at r
        rw [g2]
        simp only at r g1 ⊢
        rw [r, g1]
      · simp [packS, c1] at h
    | _ => simp [packS] at h
  | i k =>
    cases x with
    | i k' n' =>
      simp only [packS] at h
      obtain ⟨hc, h⟩ := cond_some h
      cases h
      simp only [decide_eq_true_eq] at hc
      have hx : U.nth p.us n = .I n' := by simpa [U.nth] using hh.1 0 (by simp)
      subst hc
      exact ⟨by rw [avS, hx]; exact r, fun u hu => by simpa [avS, hx, U.toI] using hu⟩
    | _ => simp [packS] at h
  | b =>
    cases x with
    | b y =>
      simp only [packS, Option.some.injEq] at h
      subst h
      have hx : U.nth p.us n = .B y := by simpa [U.nth] using hh.1 0 (by simp)
      exact ⟨by rw [avS, hx]; exact r, fun u hu => by simpa [avS, hx, U.toB] using hu⟩
    | _ => simp [packS] at h
  | s =>
    cases x with
    | s y =>
      simp only [packS, Option.some.injEq] at h
      subst h
      have hx : U.nth p.us n = .S y := by simpa [U.nth] using hh.1 0 (by simp)
      exact ⟨by rw [avS, hx]; exact r, fun u hu => by simpa [avS, hx, U.toS] using hu⟩
    | _ => simp [packS] at h
  | sl e =>
    cases x with
    | sl e' u' =>
      simp only [packS] at h
      obtain ⟨hc, h⟩ := cond_some h
      cases h
      simp only [nbeq, decide_eq_true_eq] at hc
      have hx : U.nth p.us n = u' := by simpa [U.nth] using hh.1 0 (by simp)
      subst hc
      exact ⟨by rw [avS, hx]; exact RepSl.mono hH r, fun u hu => by simpa [avS, hx] using hu⟩
    | nl =>
      simp only [packS, Option.some.injEq] at h
      subst h
      have hx : U.nth p.us n = .nil := by simpa [U.nth] using hh.1 0 (by simp)
      exact ⟨by rw [avS, hx]; exact .inl ⟨rfl, rfl, r⟩, fun u hu => by simpa [avS, hx, AV.flat] using hu⟩
    | _ => simp [packS] at h
  | st t =>
    cases x with
    | st t' u' =>
      simp only [packS] at h
      obtain ⟨hc, h⟩ := cond_some h
      cases h
      simp only [nbeq, decide_eq_true_eq] at hc
      have hx : U.nth p.us n = u' := by simpa [U.nth] using hh.1 0 (by simp)
      subst hc
      refine ⟨?_, fun u hu => by simpa [avS, hx] using hu⟩
      obtain ⟨cs, fs, h1, h2, h3⟩ := r
      rw [avS, hx]
      exact ⟨cs, fs, h1, h2, h3.mono hH⟩
    | _ => simp [packS] at h
  | fn t =>
    cases x with
    | fn t' u' =>
      simp only [packS] at h
      obtain ⟨hc, h⟩ := cond_some h
      cases h
      simp only [nbeq, decide_eq_true_eq] at hc
      have hx : U.nth p.us n = u' := by simpa [U.nth] using hh.1 0 (by simp)
      subst hc
      refine ⟨?_, fun u hu => by simpa [avS, hx] using hu⟩
      rw [avS, hx]
      exact ⟨r.1, r.2.mono hH⟩
    | _ => simp [packS] at h
  | rp t =>
    cases x with
    | rp t' u' =>
      simp only [packS] at h
      obtain ⟨hc, h⟩ := cond_some h
      cases h
      simp only [nbeq, decide_eq_true_eq] at hc
      have hx : U.nth p.us n = u' := by simpa [U.nth] using hh.1 0 (by simp)
      subst hc
      refine ⟨?_, fun u hu => by simpa [avS, hx] using hu⟩
      rw [avS, hx]
      exact RepPtr.mono hH r
    | _ => simp [packS] at h

theorem vs_rep {H H' : View} (hH : H.le H') {ι ι' : Own} {st : St} {S : Sto} {p : JP} {tm0 : List (Nat × Option Nat)} {cm0 : List (Nat × Nat)} : ∀ {ss : List Sh} {xs : List AV} {q : JP} {n m : Nat} {ts : List Nat} {l : List Value}, packL C st ss xs = some q → Holds p q n m → Good C ι ι' st S p tm0 cm0 (tmL st ss xs) → GoodC C ι ι' st S p tm0 cm0 (cmL st ss xs) →
    RepVs C H ι st.sto ts xs l → RepVs C H' ι' S ts (avL p ss n) l
  | [], [], q, n, m, [], l, h, hh, hg, hgc, r => r
  | sh :: ss, x :: xs, q, n, m, t :: ts, l, h, hh, hg, hgc, r => by
    simp only [packL] at h
    cases h1 : packS C st sh x with
    | none => simp [h1] at h
    | some q1 =>
      cases h2 : packL C st ss xs with
      | none => simp [h1, h2] at h
      | some q2 =>
        simp [h1, h2] at h; subst h
        obtain ⟨l1, l2⟩ := packS_len h1
        obtain ⟨g1, g2⟩ := hh.split
        rw [l1, l2] at g2
        obtain ⟨v, cs, l', k1, k2, k3, k4, k5, k6, k7⟩ := r
        obtain ⟨a1, a2⟩ := av_rep hH h1 g1 (fun tid o hm => hg tid o (by simp [tmL, hm])) (fun e he => hgc e (by simp [cmL, he])) k4
        exact ⟨v, cs, l', k1, k2, k3, a1, k5, fun u hu => (k6 u (a2 u hu)).mono hH, vs_rep hH h2 g2 (fun tid o hm => hg tid o (by simp [tmL, hm])) (fun e he => hgc e (by simp [cmL, he])) k7⟩
  | [], _ :: _, q, n, m, ts, l, h, hh, hg, hgc, r => by simp [packL] at h
  | _ :: _, [], q, n, m, ts, l, h, hh, hg, hgc, r => by simp [packL] at h
  | [], [], q, n, m, _ :: _, l, h, hh, hg, hgc, r => r.elim
  | _ :: _, _ :: _, q, n, m, [], l, h, hh, hg, hgc, r => r.elim

theorem lays_spec {Pd : Nat → AV → Prop} (hj : ∀ t, Pd t .junk) : ∀ (ts : List Nat) (vs : List AV) (env : List AV), (∀ t, Pd t (look env t)) → (∀ (k t : Nat) (v : AV), ts[k]? = some t → vs[k]? = some v → Pd t v) → ∀ t, Pd t (look (lays env ts vs) t)
  | [], vs, env, h, _, t => by simpa [lays] using h t
  | t0 :: ts, [], env, h, _, t => by simpa [lays] using h t
  | t0 :: ts, v :: vs, env, h, hk, t => by
    simp only [lays]
    refine lays_spec hj ts vs _ (fun t' => ?_) (fun k t' v' h1 h2 => hk (k + 1) t' v' (by simpa using h1) (by simpa using h2)) t
    rw [look_setl]
    by_cases e : t' = t0
    · subst e
      rw [if_pos rfl]
      split
      · exact hk 0 t' v rfl rfl
      · exact hj t'
    · rw [if_neg e]; exact h t'
theorem lays_len : ∀ (ts : List Nat) (vs env : List AV), (lays env ts vs).length = env.length
  | [], vs, env => by simp [lays]
  | _ :: _, [], env => by simp [lays]
  | t :: ts, v :: vs, env => by rw [lays, lays_len ts vs, length_setl]
theorem look_junks (n i : Nat) : look (List.replicate n .junk) i = .junk := by
  induction n generalizing i with
  | zero => simp [look]
  | succ n ih => cases i <;> simp [List.replicate_succ, look, ih]

def pickO (tm : List (Nat × Option Nat)) (ι : Own) : Own := fun tid => match tm.find? (fun e => Nat.beq e.1 tid) with
  | some (_, some id) => ι id
  | some (_, none) => .slice none 0 0
  | none => undef
theorem find_tm : ∀ {tm : List (Nat × Option Nat)} {tid : Nat} {o : Option Nat}, distinct (tm.map (·.1)) = true → (tid, o) ∈ tm → tm.find? (fun e => Nat.beq e.1 tid) = some (tid, o)
  | e :: tm, tid, o, hd, hm => by
    rw [List.map_cons] at hd
    obtain ⟨d1, d2⟩ := distinct_cons hd
    simp only [List.mem_cons] at hm
    rcases hm with rfl | hm
    · simp [List.find?_cons, nbeq]
    · have hne : e.1 ≠ tid := fun h => d1 (by rw [h]; exact List.mem_map.2 ⟨_, hm, rfl⟩)
      rw [List.find?_cons, nbeq]
      simp only [hne, decide_false]
      exact find_tm d2 hm
theorem same_tm : ∀ {tm : List (Nat × Option Nat)} {a b i : Nat}, distinct (tm.map (·.1)) = true → distinct (tm.filterMap (·.2)) = true → (a, some i) ∈ tm → (b, some i) ∈ tm → a = b
  | e :: tm, a, b, i, h1, h2, ha, hb => by
    rw [List.map_cons] at h1
    obtain ⟨d1, d2⟩ := distinct_cons h1
    obtain ⟨e1, e2⟩ := e
    simp only [List.mem_cons, Prod.mk.injEq] at ha hb
    cases e2 with
    | none =>
      simp only [List.filterMap_cons] at h2
      rcases ha with ⟨_, ha⟩ | ha
      · cases ha
      · rcases hb with ⟨_, hb⟩ | hb
        · cases hb
        · exact same_tm d2 h2 ha hb
    | some x =>
      simp only [List.filterMap_cons] at h2
      obtain ⟨c1, c2⟩ := distinct_cons h2
      rcases ha with ⟨rfl, ha⟩ | ha
      · rcases hb with ⟨rfl, hb⟩ | hb
        · rfl
        · cases ha; exact (c1 (List.mem_filterMap.2 ⟨_, hb, rfl⟩)).elim
      · rcases hb with ⟨rfl, hb⟩ | hb
        · cases hb; exact (c1 (List.mem_filterMap.2 ⟨_, ha, rfl⟩)).elim
        · exact same_tm d2 c2 ha hb

theorem holds_refl (p : JP) : Holds p p 0 0 := ⟨fun i _ => by simp, fun i _ => by simp⟩

theorem slots_rep {H H' : View} (hH : H.le H') {ι ι' : Own} {st : St} {S : Sto} {p : JP} {tm0 : List (Nat × Option Nat)} {cm0 : List (Nat × Nat)} {a : Act} (henv : ∀ t, RepS C H ι st.sto (tmOf a) (look st.env t) (tmOf a t)) :
    ∀ {sl : List (Nat × Sh)} {q : JP} {n m : Nat}, packL C st (sl.map (·.2)) (sl.map fun q => look st.env q.1) = some q → Holds p q n m → Good C ι ι' st S p tm0 cm0 (tmL st (sl.map (·.2)) (sl.map fun q => look st.env q.1)) → GoodC C ι ι' st S p tm0 cm0 (cmL st (sl.map (·.2)) (sl.map fun q => look st.env q.1)) →
    ∀ (k t : Nat) (v : AV), (sl.map (·.1))[k]? = some t → (avL p (sl.map (·.2)) n)[k]? = some v → RepA C H' ι' S v (tmOf a t)
  | [], q, n, m, h, hh, hg, hgc, k, t, v, h1, h2 => by simp at h1
  | (t0, sh) :: sl, q, n, m, h, hh, hg, hgc, k, t, v, hk1, hk2 => by
    simp only [List.map_cons, packL] at h
    cases h1 : packS C st sh (look st.env t0) with
    | none => simp [h1] at h
    | some q1 =>
      cases h2 : packL C st (sl.map (·.2)) (sl.map fun q => look st.env q.1) with
      | none => simp [h1, h2] at h
      | some q2 =>
        simp [h1, h2] at h; subst h
        obtain ⟨l1, l2⟩ := packS_len h1
        obtain ⟨g1, g2⟩ := hh.split
        rw [l1, l2] at g2
        cases k with
        | succ k => exact slots_rep hH henv h2 g2 (fun tid o hm => hg tid o (by simp only [List.map_cons, tmL]; exact List.mem_append_right _ hm)) (fun e he => hgc e (by simp only [List.map_cons, cmL]; exact List.mem_append_right _ he)) k t v (by simpa using hk1) (by simpa [avL] using hk2)
        | zero =>
          simp at hk1; subst hk1
          simp [avL] at hk2; subst hk2
          cases hcv : isCv (look st.env t0) with
          | false =>
            exact (av_rep hH h1 g1 (fun tid o hm => hg tid o (by simp only [List.map_cons, tmL]; exact List.mem_append_left _ hm)) (fun e he => hgc e (by simp only [List.map_cons, cmL]; exact List.mem_append_left _ he)) (ev_not_cv (henv t0) hcv)).1
          | true =>
            cases hl : look st.env t0 with
            | cv j w x =>
              rw [hl] at h1
              cases sh <;> first | (simp [packS] at h1; done) | trivial
            | _ => rw [hl] at hcv; simp [isCv] at hcv

/-- what holds of a state made anew from its template -/
structure Anew (C : Ctx) (f : Fr) (ι : Own) (st : St) (a : Act) (w : World) (tp : Tpl) (p : JP) (ι' : Own) : Prop where
  env : ∀ H', (view f ι st.sto w).le H' → ∀ t, RepA C H' ι' (unpack tp p).sto (look (unpack tp p).env t) (tmOf a t)
  size : (unpack tp p).env.length = a.tmps.size
  blk : ∀ H', (view f ι st.sto w).le H' → ∀ id, BlkOk C H' ι' (unpack tp p).sto w id
  lv : ∀ tid b, live (unpack tp p).sto tid → blkOf (ι' tid) = some b → ∃ id, (tid, some id) ∈ tmL st (tp.slots.map (·.2)) (slotsAt tp st) ∧ live st.sto id ∧ blkOf (ι id) = some b
  old : ∀ tid id, (tid, some id) ∈ tmL st (tp.slots.map (·.2)) (slotsAt tp st) → ι' tid = ι id ∧ live (unpack tp p).sto tid ∧ live st.sto id
  inj : ∀ i i' b, live (unpack tp p).sto i → live (unpack tp p).sto i' → blkOf (ι' i) = some b → blkOf (ι' i') = some b → i = i'

theorem unpack_anew {f : Fr} {ι : Own} {st : St} {a : Act} {w : World} (s : Sim C f ι st a w) {tp : Tpl} {p : JP} (h : pack C tp st = some p) : ∃ ι', Anew C f ι st a w tp p ι' := by
  unfold pack at h
  obtain ⟨hc, hp⟩ := cond_some h
  clear h
  simp only [Bool.and_eq_true, nbeq, decide_eq_true_eq] at hc
  obtain ⟨⟨⟨hn, hd1⟩, hd2⟩, hcm⟩ := hc
  generalize htm : tmL st (tp.slots.map (·.2)) (slotsAt tp st) = tm at hd1 hd2 hcm
  generalize hcme : cmL st (tp.slots.map (·.2)) (slotsAt tp st) = cm at hcm
  have hspec := stL_spec (S0 := fun _ => none) (tm := tm) (cm := cm) hp (holds_refl p) (fun e he => htm ▸ he) (fun e he => hcme ▸ he) (by rw [htm]; exact hd1)
  rw [htm] at hspec
  obtain ⟨sp1, sp2⟩ := hspec
  let S : Sto := stL p (tp.slots.map (·.2)) 0 0 fun _ => none
  let ι' : Own := pickO tm ι
  have hι : ∀ tid o, (tid, o) ∈ tm → ι' tid = (match o with | some id => ι id | none => .slice none 0 0) := by
    intro tid o hm
    show pickO tm ι tid = _
    unfold pickO
    rw [find_tm hd1 hm]
    cases o <;> rfl
  have hgood : Good C ι ι' st S p tm cm tm := fun tid o hm => ⟨hι tid o hm, sp1 tid o hm⟩
  have hgoodc : GoodC C ι ι' st S p tm cm cm := by
    intro e he
    have := List.all_eq_true.1 hcm e he
    obtain ⟨⟨t1, o⟩, h1, h2⟩ := List.any_eq_true.1 this
    simp only [Bool.and_eq_true, nbeq, decide_eq_true_eq] at h2
    obtain ⟨rfl, h2⟩ := h2
    cases o with
    | none => cases h2
    | some i =>
      simp only [decide_eq_true_eq] at h2
      subst h2
      exact ⟨hι _ _ h1, sp1 _ _ h1⟩
  have hdom : ∀ tid blk, S tid = some blk → ∃ o, (tid, o) ∈ tm ∧ Ct C st p tm cm o blk := by
    intro tid blk hb
    by_cases hm : tid ∈ tm.map (·.1)
    · obtain ⟨⟨t1, o⟩, h1, rfl⟩ := List.mem_map.1 hm
      obtain ⟨blk', h2, h3⟩ := sp1 _ _ h1
      have : S t1 = some blk' := h2
      rw [this] at hb
      cases hb
      exact ⟨o, h1, h3⟩
    · have : S tid = none := sp2 tid hm
      rw [this] at hb; cases hb
  have hliv : ∀ {o blk} {tid : Nat}, Ct C st p tm cm o blk → S tid = some blk → live S tid := by
    intro o blk tid hct hS
    cases o with
    | none => obtain ⟨e, ty, rfl, _⟩ := hct; exact live_arr hS
    | some id =>
      rcases hct with ⟨e, z, xs, _, rfl⟩ | ⟨t, us, _, rfl⟩ | ⟨t, vs, fs, n, m, q, _, rfl, _⟩
      · exact live_arr hS
      · exact live_mp hS
      · exact live_box hS
  have hlive : ∀ tid b, live S tid → blkOf (ι' tid) = some b → ∃ id, (tid, some id) ∈ tm ∧ live st.sto id ∧ blkOf (ι id) = some b := by
    intro tid b hl hb
    unfold live at hl
    cases hS : S tid with
    | none => simp [hS] at hl
    | some blk =>
      obtain ⟨o, h1, h2⟩ := hdom tid blk hS
      rw [hι tid o h1] at hb
      cases o with
      | none => simp [blkOf] at hb
      | some id =>
        refine ⟨id, h1, ?_, hb⟩
        rcases h2 with ⟨e, z, xs, c1, _⟩ | ⟨t, us, c1, _⟩ | ⟨t, vs, fs, n, m, q, c1, _⟩
        · exact live_arr c1
        · exact live_mp c1
        · exact live_box c1
  have hlen : (unpack tp p).env.length = a.tmps.size := by
    show (lays _ _ _).length = _
    rw [lays_len, List.length_replicate, hn, s.size]
  refine ⟨ι', ⟨fun H' hH t => ?_, hlen, fun H' hH tid => ?_, fun tid b h1 h2 => by rw [htm]; exact hlive tid b h1 h2, fun tid id hm => ?_, ?_⟩⟩
  · show RepA C H' ι' S (look (lays (List.replicate tp.n .junk) (tp.slots.map (·.1)) (avL p (tp.slots.map (·.2)) 0)) t) (tmOf a t)
    refine lays_spec (Pd := fun t x => RepA C H' ι' S x (tmOf a t)) (fun _ => trivial) _ _ _ (fun t => by rw [look_junks]; trivial) ?_ t
    exact slots_rep hH s.env hp (holds_refl p) (by rw [show (tp.slots.map fun q => look st.env q.1) = slotsAt tp st from rfl, htm]; exact hgood) (by rw [show (tp.slots.map fun q => look st.env q.1) = slotsAt tp st from rfl, hcme]; exact hgoodc)
  · show BlkOk C H' ι' S w tid
    unfold BlkOk
    cases hS : S tid with
    | none => trivial
    | some blk =>
      obtain ⟨o, h1, h2⟩ := hdom tid blk hS
      have hi := hι tid o h1
      cases o with
      | none =>
        obtain ⟨e, ty, rfl, hty⟩ := h2
        simp only at hi
        rw [hi]
        exact ⟨[], ⟨by simp, .inl ⟨rfl, rfl⟩⟩, fun i hi => by simp at hi, by simp, ⟨ty, hty⟩⟩
      | some id =>
        simp only at hi
        rw [hi]
        rcases h2 with ⟨e, z, xs, c1, rfl⟩ | ⟨t, us, c1, rfl⟩ | ⟨t, vs, fs, n, m, q, c1, rfl, c3, c4, c5, c6⟩
        · obtain ⟨cs, k1, k2, k3, k4⟩ := (s.blk id).arr c1
          exact ⟨cs, k1, fun i hi => (k2 i hi).mono hH, k3, k4⟩
        · have hb := s.blk id
          unfold BlkOk at hb
          rw [c1] at hb
          obtain ⟨g, es, clock, kt, vt, bt, k1, k2, k3, k4⟩ := hb
          exact ⟨g, es, clock, kt, vt, bt, k1, k2, k3, k4.mono hH⟩
        · obtain ⟨g, cur, k1, k2, k3, k4⟩ := (s.blk id).box c1
          exact ⟨g, cur, k1, k2, k3, vs_rep hH c3 c4 (fun tid o hm => hgood tid o (c5 _ hm)) (fun e he => hgoodc e (c6 e he)) k4⟩
  · rw [htm] at hm
    obtain ⟨blk, h1, h2⟩ := sp1 _ _ hm
    refine ⟨hι _ _ hm, hliv h2 h1, ?_⟩
    rcases h2 with ⟨e, z, xs, c1, _⟩ | ⟨t, us, c1, _⟩ | ⟨t, vs, fs, n, m, q, c1, _⟩
    · exact live_arr c1
    · exact live_mp c1
    · exact live_box c1
  · intro i i' b h1 h2 b1 b2
    obtain ⟨id, a1, a2, a3⟩ := hlive i b h1 b1
    obtain ⟨id', c1, c2, c3⟩ := hlive i' b h2 b2
    have := s.inj id id' b a2 c2 a3 c3
    subst this
    exact same_tm hd1 hd2 a1 c1

theorem Anew.view_le {f : Fr} (hf : FrOk f) {ι ι' : Own} {st : St} {a : Act} {w : World} {tp : Tpl} {p : JP} (s : Sim C f ι st a w) (h : Anew C f ι st a w tp p ι') : (view f ι st.sto w).le (view f ι' (unpack tp p).sto w) :=
  Ab.view_le s.keep.size (fun tid b h1 h2 _ => by
    obtain ⟨id, _, h3, h4⟩ := h.lv tid b h1 h2
    exact ⟨id, h3, h4⟩) (fun _ _ _ => rfl) hf
/-- a state made anew from its template -/
theorem unpack_sound {f : Fr} (hf : FrOk f) {ι : Own} {st : St} {a : Act} {w : World} (s : Sim C f ι st a w) {tp : Tpl} {p : JP} (h : pack C tp st = some p) : ∃ ι', Sim C f ι' (unpack tp p) a w := by
  obtain ⟨ι', n⟩ := unpack_anew s h
  have hH := n.view_le hf s
  refine ⟨ι', fun t => .of (n.env _ hH t), n.size, n.blk _ hH, n.inj, fun i b h1 b1 => ?_, s.keep, s.oth, s.defers⟩
  obtain ⟨id, _, a2, a3⟩ := n.lv i b h1 b1
  exact s.rng id b a2 a3
end Go.Ab
