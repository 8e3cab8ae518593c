/- Memory of the call's own becomes a datum for good. -/
import Derived.Test.YtnahhhaicalmcaaDoorAbEntry
set_option linter.unusedVariables false
set_option linter.unusedSimpArgs false
namespace Go.Ab
open Go.RowKit
variable {C : Ctx} {P : Program}

theorem frzAV_junk (id e : Nat) (z : Bool) (xs : List U) : frzAV C id e z xs .junk = .junk := rfl

section
variable {f : Fr} {ι : Own} {st : St} {a : Act} {w : World} {id e : Nat} {z : Bool} {xs : List U}

def frzSto (C : Ctx) (id e : Nat) (z : Bool) (xs : List U) (sto : Sto) : Sto := fun i => bif Nat.beq i id then some .dead else (sto i).map (frzBlk C id e z xs)
theorem frz_live {sto : Sto} {i : Nat} (h : live (frzSto C id e z xs sto) i) : i ≠ id ∧ live sto i := by
  unfold live frzSto at h
  simp only [nbeq] at h
  by_cases hi : i = id
  · simp [hi] at h
  · simp only [hi, decide_false, cond_false] at h
    refine ⟨hi, ?_⟩
    unfold live
    cases hs : sto i with
    | none => simp [hs] at h
    | some b => cases b <;> simp_all [frzBlk]
theorem frz_stoLe {sto : Sto} (hs : sto id = some (.arr e z xs)) : StoLe ι sto ι (frzSto C id e z xs sto) := by
  intro i
  by_cases hi : i = id
  · subst hi
    rw [hs]
    exact .inl (by simp [frzSto, nbeq])
  · have e1 : frzSto C id e z xs sto i = (sto i).map (frzBlk C id e z xs) := by simp [frzSto, nbeq, hi]
    cases hb : sto i with
    | none => trivial
    | some b =>
      rw [hb] at e1
      cases b with
      | dead => exact e1
      | arr e' z' xs' => exact .inr ⟨rfl, z', xs', e1, rfl⟩
      | box t vs => exact .inr ⟨rfl, _, e1⟩
      | mp t us => exact .inr ⟨rfl, _, e1⟩

theorem frz_avs {H V : View} (ok : CtxOk P C) (hs : st.sto id = some (.arr e z xs)) (hb : BlkOk C H ι st.sto w id) (hV : H.le V) (hsh : Shows ι w V id) {sto' : Sto} (hle : StoLe ι st.sto ι sto') {x : AV} {v : Value} (r : RepA C H ι st.sto x v) :
    RepA C V ι sto' (frzAV C id e z xs x) v := by
  have hm := r.mono hV hle
  cases x with
  | ow i r' =>
    simp only [frzAV, nbeq]
    by_cases hi : i = id
    · subst hi
      simp only [decide_true, cond_true]
      exact ow_repSlV hV hb hs hsh r
    · simpa [hi] using hm
  | pe i k p =>
    simp only [frzAV, nbeq]
    by_cases hi : i = id
    · subst hi
      simp only [decide_true, cond_true]
      have r' : RepPe C ι st.sto i k p v := r
      unfold RepPe at r'
      rw [hs] at r'
      obtain ⟨h1, h2, g, cap, h3, h4⟩ := r'
      obtain ⟨cs, k1, k2, k3, k4⟩ := hb.arr hs
      obtain ⟨cs', j1, j2⟩ := (k2 k h2).path ok h1
      refine ⟨_, cs', h4, rfl, ⟨fun _ => rfl, fun j v' hv' => ?_⟩, j1.mono hV⟩
      have := own_at (h3 ▸ k1) k (poff C e p + j) v' (j2 j v' hv')
      rw [add_eq] at this
      rw [Nat.add_assoc]
      exact hsh _ _ _ (by rw [h3]; rfl) this
    · simpa [hi] using hm
  | tup ts u =>
    simp only [frzAV]
    cases hc : ts.any _ with
    | true => trivial
    | false => exact hm
  | cv j w' v' => exact r.elim
  | _ => exact hm

theorem frz_vs {H V : View} (ok : CtxOk P C) (hs : st.sto id = some (.arr e z xs)) (hb : BlkOk C H ι st.sto w id) (hV : H.le V) (hsh : Shows ι w V id) {sto' : Sto} (hle : StoLe ι st.sto ι sto') :
    ∀ {ts : List Nat} {vs : List AV} {l : List Value}, RepVs C H ι st.sto ts vs l → RepVs C V ι sto' ts (frzL C id e z xs ts vs) l
  | [], [], l, k => k
  | t :: ts, x :: vs, l, k => by
    obtain ⟨v, cs, l', h1, h2, h3, h4, h5, h6, h7⟩ := k
    have h7' := frz_vs ok hs hb hV hsh hle h7
    have hm := h4.mono hV hle
    simp only [frzL]
    cases x with
    | ow i r' =>
      simp only [nbeq]
      by_cases hi : i = id
      · subst hi
        simp only [decide_true, cond_true]
        cases hel : elt C t with
        | none => exact ⟨v, cs, l', h1, h2, h3, trivial, h5, fun u hu => by simp [AV.flat] at hu, h7'⟩
        | some e' =>
          by_cases hee : e = e'
          · subst hee
            simp only [decide_true, cond_true]
            have hr := ow_repSlV hV hb hs hsh h4
            refine ⟨v, cs, l', h1, h2, h3, hr, h5, fun u hu => ?_, h7'⟩
            simp [AV.flat] at hu
            subst hu
            have hte := elt_some hel
            have hcs : cs = [v] := isVal_inj h3 (isVal_one (fun fs e => by rw [hte] at e; cases e))
            rw [hcs]
            exact RepSl.rep hte hr
          · simp only [hee, decide_false, cond_false]
            exact ⟨v, cs, l', h1, h2, h3, trivial, h5, fun u hu => by simp [AV.flat] at hu, h7'⟩
      · simp only [hi, decide_false, cond_false]
        exact ⟨v, cs, l', h1, h2, h3, hm, h5, fun u hu => by simp [AV.flat] at hu, h7'⟩
    | pe i k p =>
      simp only [nbeq]
      by_cases hi : i = id
      · simp only [hi, decide_true, cond_true]
        exact ⟨v, cs, l', h1, h2, h3, trivial, h5, fun u hu => by simp [AV.flat] at hu, h7'⟩
      · simp only [hi, decide_false, cond_false]
        exact ⟨v, cs, l', h1, h2, h3, hm, h5, fun u hu => by simp [AV.flat] at hu, h7'⟩
    | _ => exact ⟨v, cs, l', h1, h2, h3, hm, h5, fun u hu => (h6 u hu).mono hV, h7'⟩
  | [], _ :: _, _, k => k.elim
  | _ :: _, [], _, k => k.elim

theorem freeze1_sound (ok : CtxOk P C) (hf : FrOk f) (s : Sim C f ι st a w) {st' : St} (h : freeze1 C st id = some st') :
    Sim C f ι st' a w ∧ (view f ι st.sto w).le (view f ι st'.sto w) ∧ StoLe ι st.sto ι st'.sto := by
  unfold freeze1 at h
  cases hs : st.sto id with
  | none => simp [hs] at h
  | some b =>
    cases b with
    | arr e z xs =>
      simp only [hs, Option.some.injEq] at h
      subst h
      have hle : StoLe ι st.sto ι (frzSto C id e z xs st.sto) := frz_stoLe hs
      have hv : (view f ι st.sto w).le (view f ι (frzSto C id e z xs st.sto) w) :=
        view_le s.keep.size (fun i b hl hb _ => ⟨i, (frz_live hl).2, hb⟩) (fun b _ _ => rfl) hf
      have hsh : Shows ι w (view f ι (frzSto C id e z xs st.sto) w) id := by
        intro b o v hb hv
        unfold view
        rw [if_neg, if_neg]
        · exact hv
        · rintro ⟨h1, h2⟩
          rcases s.rng id b (live_arr hs) hb with h | h
          · omega
          · exact h2 h
        · rintro ⟨i, h1, h2⟩
          obtain ⟨h3, h4⟩ := frz_live h1
          exact h3 (s.inj i id b h4 (live_arr hs) h2 hb)
      refine ⟨⟨?_, by simp [s.size], ?_, ?_, ?_, s.keep, s.oth, s.defers⟩, hv, hle⟩
      · intro t
        show RepS C (view f ι (frzSto C id e z xs st.sto) w) ι (frzSto C id e z xs st.sto) (tmOf a) (look (st.env.map (frzAV C id e z xs)) t) (tmOf a t)
        rw [look_map _ rfl]
        have := s.env t
        cases hcv : isCv (look st.env t) with
        | false =>
          rw [RepS.eq hcv] at this
          exact .of (frz_avs ok hs (s.blk id) hv hsh hle this)
        | true =>
          cases hl : look st.env t with
          | cv j w' x =>
            rw [hl] at this
            exact ⟨fun e' => frz_avs ok hs (s.blk id) hv hsh hle (this.1 e'), this.2⟩
          | _ => rw [hl] at hcv; simp [isCv] at hcv
      · intro i
        show BlkOk C (view f ι (frzSto C id e z xs st.sto) w) ι (frzSto C id e z xs st.sto) w i
        have hb := s.blk i
        unfold BlkOk at hb ⊢
        by_cases hi : i = id
        · have : frzSto C id e z xs st.sto i = some .dead := by simp [frzSto, nbeq, hi]
          rw [this]
          trivial
        · have e1 : frzSto C id e z xs st.sto i = (st.sto i).map (frzBlk C id e z xs) := by simp [frzSto, nbeq, hi]
          rw [e1]
          cases hsi : st.sto i with
          | none => trivial
          | some b =>
            rw [hsi] at hb
            cases b with
            | dead => trivial
            | arr e' z' xs' =>
              obtain ⟨cs, k1, k2, k3, k4⟩ := hb
              exact ⟨cs, k1, fun j hj => (k2 j hj).mono hv, k3, k4⟩
            | box t vs =>
              obtain ⟨g, cur, k1, k2, k3, k4⟩ := hb
              exact ⟨g, cur, k1, k2, k3, frz_vs ok hs (s.blk id) hv hsh hle k4⟩
            | mp t us =>
              obtain ⟨g, es, clock, kt, vt, bt, k1, k2, k3, k4⟩ := hb
              exact ⟨g, es, clock, kt, vt, bt, k1, k2, k3, k4.mono hv⟩
      · exact fun i i' g h1 h2 => s.inj i i' g (frz_live h1).2 (frz_live h2).2
      · exact fun i g h1 => s.rng i g (frz_live h1).2
    | _ => simp [hs] at h

theorem freezes_sound (ok : CtxOk P C) (hf : FrOk f) : ∀ {l : List Nat} {st st' : St}, Sim C f ι st a w → freezes C st l = some st' →
    Sim C f ι st' a w ∧ (view f ι st.sto w).le (view f ι st'.sto w) ∧ StoLe ι st.sto ι st'.sto
  | [], st, st', s, h => by simp [freezes] at h; subst h; exact ⟨s, View.le.refl _, StoLe.refl _ _⟩
  | id :: l, st, st', s, h => by
    have key : ∀ st1, freeze1 C st id = some st1 → freezes C st1 l = some st' → Sim C f ι st' a w ∧ (view f ι st.sto w).le (view f ι st'.sto w) ∧ StoLe ι st.sto ι st'.sto := by
      intro st1 h1 h2
      obtain ⟨a1, a2, a3⟩ := freeze1_sound ok hf s h1
      obtain ⟨b1, b2, b3⟩ := freezes_sound ok hf a1 h2
      exact ⟨b1, a2.trans b2, a3.trans b3⟩
    simp only [freezes] at h
    cases hs : st.sto id with
    | none => simp [hs, freeze1] at h
    | some b =>
      cases b with
      | dead => simp only [hs] at h; exact freezes_sound ok hf s h
      | arr e z xs =>
        simp only [hs] at h
        cases h1 : freeze1 C st id with
        | none => simp [h1] at h
        | some st1 => rw [h1] at h; exact key st1 h1 h
      | box t vs => simp [hs, freeze1] at h
      | mp t us => simp [hs, freeze1] at h
end

end Go.Ab
