/- Functions that work on memory of the caller's: boxes become data; what is handed over; what comes back. -/
import Derived.Test.YtnahhhaicalmcaaDoorAbTpl
set_option linter.unusedVariables false
set_option linter.unusedSimpArgs false
section
namespace Go.Ab
open Go.RowKit
variable {C : Ctx} {P : Program}

section
variable {f : Fr} {ι : Own} {st : St} {a : Act} {w : World} {id t : Nat} {u : U}
def frbSto (id t : Nat) (u : U) (sto : Sto) : Sto := fun i => bif Nat.beq i id then some .dead else (sto i).map (frbBlk id t u)
theorem frb_live {sto : Sto} {i : Nat} (h : live (frbSto id t u sto) i) : i ≠ id ∧ live sto i := by
  unfold live frbSto at h
  simp only [nbeq] at h
  by_cases hi : i = id
  · simp [hi] at h
  · simp only [hi, decide_false, cond_false] at h
    refine ⟨hi, ?_⟩
    unfold live
    cases hs : sto i with
    | none => simp [hs] at h
    | some b => cases b <;> simp_all [frbBlk]
theorem frb_stoLe {sto : Sto} {vs : List AV} (hs : sto id = some (.box t vs)) : StoLe ι sto ι (frbSto id t u sto) := by
  intro i
  by_cases hi : i = id
  · subst hi
    rw [hs]
    exact .inl (by simp [frbSto, nbeq])
  · have e1 : frbSto id t u sto i = (sto i).map (frbBlk id t u) := by simp [frbSto, nbeq, hi]
    cases hb : sto i with
    | none => trivial
    | some b =>
      rw [hb] at e1
      cases b with
      | dead => exact e1
      | arr e' z' xs' => exact .inr ⟨rfl, z', xs', e1, rfl⟩
      | box t vs => exact .inr ⟨rfl, _, e1⟩
      | mp t us => exact .inr ⟨rfl, _, e1⟩
theorem frb_caps {H V : View} {sto sto' : Sto} (hV : H.le V) (hle : StoLe ι sto ι sto') (hp : ∀ v, RepPb C ι sto id [] v → RepPtr C V t u v) : ∀ {caps : List Cap} {vs : List Value}, RepCaps C H ι sto caps vs → RepCaps C V ι sto' (caps.map (frbCap id t u)) vs
  | [], [], _ => trivial
  | .own i :: l, v :: vs, k => by
    refine ⟨?_, frb_caps hV hle hp k.2⟩
    have k1 : RepPb C ι sto i [] v := k.1
    simp only [frbCap, nbeq]
    by_cases hi : i = id
    · subst hi
      simp only [decide_true, cond_true]
      exact hp v k1
    · simp only [hi, decide_false, cond_false]
      exact RepPb.mono hle k1
  | .ro t' u' :: l, v :: vs, k => ⟨RepPtr.mono hV k.1, frb_caps hV hle hp k.2⟩
  | [], _ :: _, k => k.elim
  | _ :: _, [], k => k.elim
theorem frb_avs {H V : View} {sto sto' : Sto} (hV : H.le V) (hle : StoLe ι sto ι sto') (hp : ∀ v, RepPb C ι sto id [] v → RepPtr C V t u v) {x : AV} {v : Value} (r : RepA C H ι sto x v) : RepA C V ι sto' (frbAV id t u x) v := by
  have hm := r.mono hV hle
  cases x with
  | pb i p =>
    simp only [frbAV, nbeq]
    by_cases hi : i = id
    · subst hi
      simp only [decide_true, cond_true]
      cases p with
      | nil => exact hp v r
      | cons _ _ => trivial
    · simpa [hi] using hm
  | clo g caps =>
    obtain ⟨vs, h1, h2⟩ := r
    exact ⟨vs, h1, frb_caps hV hle hp h2⟩
  | cv j w' v' => exact r.elim
  | _ => exact hm
theorem frb_vs {H V : View} {sto sto' : Sto} (hV : H.le V) (hle : StoLe ι sto ι sto') (hp : ∀ v, RepPb C ι sto id [] v → RepPtr C V t u v) : ∀ {ts : List Nat} {vs : List AV} {l : List Value}, RepVs C H ι sto ts vs l → RepVs C V ι sto' ts (vs.map (frbIn id t u)) l
  | [], [], l, k => k
  | t0 :: ts, x :: vs, l, k => by
    obtain ⟨v, cs, l', h1, h2, h3, h4, h5, h6, h7⟩ := k
    have h7' := frb_vs hV hle hp h7
    have hm := h4.mono hV hle
    simp only [List.map_cons]
    cases x with
    | pb i p =>
      simp only [frbIn, nbeq]
      by_cases hi : i = id
      · simp only [hi, decide_true, cond_true]
        exact ⟨v, cs, l', h1, h2, h3, trivial, h5, fun u hu => by simp [AV.flat] at hu, h7'⟩
      · simp only [hi, decide_false, cond_false]
        exact ⟨v, cs, l', h1, h2, h3, hm, h5, fun u hu => by simp [AV.flat] at hu, h7'⟩
    | clo g caps =>
      obtain ⟨vs', k1, k2⟩ := h4
      exact ⟨v, cs, l', h1, h2, h3, ⟨vs', k1, frb_caps hV hle hp k2⟩, h5, fun u hu => by simp [frbIn, AV.flat] at hu, h7'⟩
    | _ => exact ⟨v, cs, l', h1, h2, h3, hm, h5, fun u hu => (h6 u hu).mono hV, h7'⟩
  | [], _ :: _, _, k => k.elim
  | _ :: _, [], _, k => k.elim

theorem flat_owns {x : AV} (h : x.flat.isSome = true) : ownsOf x = [] := by cases x <;> simp_all [AV.flat, ownsOf]
theorem freezeB_sound (hf : FrOk f) (s : Sim C f ι st a w) {st' : St} (h : freezeB C st id = some st') :
    Sim C f ι st' a w ∧ (view f ι st.sto w).le (view f ι st'.sto w) ∧ StoLe ι st.sto ι st'.sto := by
  unfold freezeB at h
  cases hs : st.sto id with
  | none => simp [hs] at h
  | some b =>
    cases b with
    | box t vs =>
      simp only [hs] at h
      cases hfl : vs.all (fun x => x.flat.isSome) with
      | false => simp [hfl] at h
      | true =>
      simp only [hfl, cond_true] at h
      cases hu : boxU C st t vs with
      | none => simp [hu] at h
      | some u =>
      simp only [hu, Option.some.injEq] at h
      subst h
      have hle : StoLe ι st.sto ι (frbSto id t u st.sto) := frb_stoLe hs
      have hv : (view f ι st.sto w).le (view f ι (frbSto id t u st.sto) w) :=
        view_le s.keep.size (fun i b hl hb _ => ⟨i, (frb_live hl).2, hb⟩) (fun b _ _ => rfl) hf
      have hsh : Shows ι w (view f ι (frbSto id t u st.sto) w) id := by
        intro b o v hb hv
        unfold view
        rw [if_neg, if_neg]
        · exact hv
        · rintro ⟨h1, h2⟩
          rcases s.rng id b (live_box hs) hb with h | h
          · omega
          · exact h2 h
        · rintro ⟨i, h1, h2⟩
          obtain ⟨h3, h4⟩ := frb_live h1
          exact h3 (s.inj i id b h4 (live_box hs) h2 hb)
      have hp : ∀ v, RepPb C ι st.sto id [] v → RepPtr C (view f ι (frbSto id t u st.sto) w) t u v := by
        intro v hv1
        have h1 : capUs C st [.own id] = some [u] := by simp [capUs, hs, hu]
        have h2 : capTs st [.own id] = some [t] := by simp [capTs, capT, hs]
        obtain ⟨_, _, q3⟩ := capUs_rep (V := view f ι (frbSto id t u st.sto) w) (caps := [.own id]) (vs := [v]) s.blk hv ⟨hv1, trivial⟩ h1 h2 (fun i hi => by
          have : vs.flatMap ownsOf = [] := List.flatMap_eq_nil_iff.2 (fun x hx => flat_owns (List.all_eq_true.1 hfl x hx))
          simp only [capIds, hs, this, List.append_nil, List.mem_singleton] at hi
          subst hi; exact hsh)
        exact q3 0 (by simp)
      refine ⟨⟨?_, by simp [s.size], ?_, ?_, ?_, s.keep, s.oth, s.defers⟩, hv, hle⟩
      · intro t1
        show RepS C (view f ι (frbSto id t u st.sto) w) ι (frbSto id t u st.sto) (tmOf a) (look (st.env.map (frbAV id t u)) t1) (tmOf a t1)
        rw [look_map _ rfl]
        have := s.env t1
        cases hcv : isCv (look st.env t1) with
        | false =>
          rw [RepS.eq hcv] at this
          exact .of (frb_avs hv hle hp this)
        | true =>
          cases hl : look st.env t1 with
          | cv j w' x =>
            rw [hl] at this
            exact ⟨fun e' => frb_avs hv hle hp (this.1 e'), this.2⟩
          | _ => rw [hl] at hcv; simp [isCv] at hcv
      · intro i
        show BlkOk C (view f ι (frbSto id t u st.sto) w) ι (frbSto id t u st.sto) w i
        have hb := s.blk i
        unfold BlkOk at hb ⊢
        by_cases hi : i = id
        · have : frbSto id t u st.sto i = some .dead := by simp [frbSto, nbeq, hi]
          rw [this]
          trivial
        · have e1 : frbSto id t u st.sto i = (st.sto i).map (frbBlk id t u) := by simp [frbSto, nbeq, hi]
          rw [e1]
          cases hsi : st.sto i with
          | none => trivial
          | some b =>
            rw [hsi] at hb
            cases b with
            | dead => trivial
            | arr e' z' xs' =>
              obtain ⟨cs, k1, k2, k3, k4⟩ := hb
              exact ⟨cs, k1, fun j hj => (k2 j hj).mono hv, k3, k4⟩
            | box t1 vs1 =>
              obtain ⟨g, cur, k1, k2, k3, k4⟩ := hb
              exact ⟨g, cur, k1, k2, k3, frb_vs hv hle hp k4⟩
            | mp t1 us =>
              obtain ⟨g, es, clock, kt, vt, bt, k1, k2, k3, k4⟩ := hb
              exact ⟨g, es, clock, kt, vt, bt, k1, k2, k3, k4.mono hv⟩
      · exact fun i i' g h1 h2 => s.inj i i' g (frb_live h1).2 (frb_live h2).2
      · exact fun i g h1 => s.rng i g (frb_live h1).2
    | _ => simp [hs] at h
theorem freezeX_sound (ok : CtxOk P C) (hf : FrOk f) : ∀ {l : List Nat} {st st' : St}, Sim C f ι st a w → freezeX C st l = some st' → Sim C f ι st' a w
  | [], st, st', s, h => by simp [freezeX] at h; subst h; exact s
  | id :: l, st, st', s, h => by
    simp only [freezeX] at h
    split at h
    · exact freezeX_sound ok hf s h
    · simp only [Option.bind_eq_some_iff] at h
      obtain ⟨st1, h1, h2⟩ := h
      exact freezeX_sound ok hf (freeze1_sound ok hf s h1).1 h2
    · simp only [Option.bind_eq_some_iff] at h
      obtain ⟨st1, h1, h2⟩ := h
      exact freezeX_sound ok hf (freezeB_sound hf s h1).1 h2
    · cases h
end

/-! what comes back -/
theorem BlkOk.move {H H' : View} (hH : H.le H') {ι ι' : Own} {sto sto' : Sto} (hle : StoLe ι sto ι' sto') {w : World} {id : Nat} (h1 : sto' id = sto id) (h2 : ι' id = ι id) (hb : BlkOk C H ι sto w id) : BlkOk C H' ι' sto' w id := by
  unfold BlkOk at hb ⊢
  rw [h1, h2]
  cases hs : sto id with
  | none => trivial
  | some b =>
    rw [hs] at hb
    cases b with
    | dead => trivial
    | arr e z xs =>
      obtain ⟨cs, k1, k2, k3, k4⟩ := hb
      exact ⟨cs, k1, fun i hi => (k2 i hi).mono hH, k3, k4⟩
    | box t vs =>
      obtain ⟨g, cur, k1, k2, k3, k4⟩ := hb
      exact ⟨g, cur, k1, k2, k3, k4.mono hH hle⟩
    | mp t us =>
      obtain ⟨g, es, clock, kt, vt, bt, k1, k2, k3, k4⟩ := hb
      exact ⟨g, es, clock, kt, vt, bt, k1, k2, k3, k4.mono hH⟩
/-- a callee's blocks and the caller's are of one kind -/
def sameKind : Option Blk → Option Blk → Prop
  | some (.arr e _ xs), some (.arr e' _ ys) => e = e' ∧ ys.length = xs.length
  | some (.box t _), some (.box t' _) => t = t'
  | _, _ => False
theorem xlay_sound {f : Fr} (hf : FrOk f) {ι : Own} {st : St} {a : Act} {w : World} (s : Sim C f ι st a w) {O2 : Nat → Prop} {moved : List Nat}
    (hO : ∀ b, O2 b → ∃ id, id ∈ moved ∧ live st.sto id ∧ blkOf (ι id) = some b) (hO' : ∀ id b, id ∈ moved → live st.sto id → blkOf (ι id) = some b → O2 b) {ι2 : Own} {sq : St} {aq : Act} {w' : World}
    (s2 : Sim C ⟨view f ι st.sto w, w, O2, fun _ _ => False⟩ ι2 sq aq w')
    (hid : ∀ id b, sq.sto id = some b → (id ∈ moved ∧ ι2 id = ι id ∧ sameKind (st.sto id) (some b)) ∨ st.sto id = none) :
    ∃ ι3, Sim C f ι3 (xlay st sq moved) a w' ∧ (view ⟨view f ι st.sto w, w, O2, fun _ _ => False⟩ ι2 sq.sto w').le (view f ι3 (xlay st sq moved).sto w') ∧ (view f ι st.sto w).le (view f ι3 (xlay st sq moved).sto w') := by
  let ι3 : Own := fun i => if (sq.sto i).isSome then ι2 i else ι i
  let S3 : Sto := (xlay st sq moved).sto
  have hS1 : ∀ i b, sq.sto i = some b → S3 i = some b ∧ ι3 i = ι2 i := fun i b h => ⟨by show (xlay st sq moved).sto i = _; simp [xlay, h], by simp [ι3, h]⟩
  have hS2 : ∀ i, sq.sto i = none → S3 i = (if i ∈ moved then some .dead else st.sto i) ∧ ι3 i = ι i := fun i h => by
    refine ⟨?_, by simp [ι3, h]⟩
    show (xlay st sq moved).sto i = _
    simp only [xlay, h]
    by_cases hm : i ∈ moved
    · have : moved.any (Nat.beq i) = true := List.any_eq_true.2 ⟨i, hm, by simp [nbeq]⟩
      simp [this, hm]
    · have : moved.any (Nat.beq i) = false := by
        rw [List.any_eq_false]
        intro x hx
        rw [nbeq]
        simp only [decide_eq_true_eq]
        rintro rfl
        exact hm hx
      simp [this, hm]
  have hle3 : StoLe ι2 sq.sto ι3 S3 := by
    intro i
    cases hi : sq.sto i with
    | none => trivial
    | some b =>
      obtain ⟨h1, h2⟩ := hS1 i b hi
      cases b with
      | dead => exact h1
      | arr e z xs => exact .inr ⟨h2, z, xs, h1, rfl⟩
      | box t vs => exact .inr ⟨h2, vs, h1⟩
      | mp t us => exact .inr ⟨h2, us, h1⟩
  have hle : StoLe ι st.sto ι3 S3 := by
    intro i
    cases hq : sq.sto i with
    | none =>
      obtain ⟨h1, h2⟩ := hS2 i hq
      by_cases hm : i ∈ moved
      · rw [if_pos hm] at h1
        cases hi : st.sto i with
        | none => trivial
        | some b => cases b <;> first | exact h1 | exact .inl h1
      · rw [if_neg hm] at h1
        cases hi : st.sto i with
        | none => trivial
        | some b =>
          rw [hi] at h1
          cases b with
          | dead => exact h1
          | arr e z xs => exact .inr ⟨h2, z, xs, h1, rfl⟩
          | box t vs => exact .inr ⟨h2, vs, h1⟩
          | mp t us => exact .inr ⟨h2, us, h1⟩
    | some b =>
      obtain ⟨h1, h2⟩ := hS1 i b hq
      rcases hid i b hq with ⟨_, h3, h4⟩ | h3
      · cases hi : st.sto i with
        | none => trivial
        | some b0 =>
          rw [hi] at h4
          cases b0 <;> cases b <;> simp only [sameKind] at h4
          · obtain ⟨rfl, h4⟩ := h4
            exact .inr ⟨h2.trans h3, _, _, h1, h4⟩
          · subst h4
            exact .inr ⟨h2.trans h3, _, h1⟩
      · rw [h3]; trivial
  -- whose a live block is
  have hlv : ∀ i b, live S3 i → blkOf (ι3 i) = some b → (live sq.sto i ∧ sq.sto i ≠ none ∧ ι3 i = ι2 i ∧ blkOf (ι2 i) = some b) ∨ (sq.sto i = none ∧ i ∉ moved ∧ live st.sto i ∧ S3 i = st.sto i ∧ ι3 i = ι i ∧ blkOf (ι i) = some b) := by
    intro i b hl hb
    cases hq : sq.sto i with
    | some x =>
      obtain ⟨h1, h2⟩ := hS1 i x hq
      refine .inl ⟨?_, by simp, h2, by rw [← h2]; exact hb⟩
      unfold live at hl ⊢
      rw [h1] at hl
      rw [hq]; exact hl
    | none =>
      obtain ⟨h1, h2⟩ := hS2 i hq
      by_cases hm : i ∈ moved
      · rw [if_pos hm] at h1
        unfold live at hl
        rw [h1] at hl
        exact hl.elim
      · rw [if_neg hm] at h1
        refine .inr ⟨rfl, hm, ?_, h1, h2, by rw [← h2]; exact hb⟩
        unfold live at hl ⊢
        rw [← h1]; exact hl
  have hnO : ∀ i b, i ∉ moved → live st.sto i → blkOf (ι i) = some b → ¬ O2 b := by
    intro i b hm hl hb ho
    obtain ⟨i', h1, h2, h3⟩ := hO b ho
    have := s.inj i i' b hl h2 hb h3
    subst this
    exact hm h1
  have hkeep : Keep O2 w w' := s2.keep
  have hV : (view ⟨view f ι st.sto w, w, O2, fun _ _ => False⟩ ι2 sq.sto w').le (view f ι3 S3 w') := by
    intro b o v e
    unfold view at e
    split at e
    · cases e
    · rename_i hn
      have hn3 : ¬ ∃ id, live S3 id ∧ blkOf (ι3 id) = some b ∧ live sq.sto id := by
        rintro ⟨id, h1, h2, h3⟩
        rcases hlv id b h1 h2 with ⟨h4, _, _, h5⟩ | ⟨h4, _⟩
        · exact hn ⟨id, h4, h5⟩
        · unfold live at h3; rw [h4] at h3; exact h3
      split at e
      · rename_i hb
        have hb1 : b < w.heap.size := hb.1
        have hb2 : ¬ O2 b := hb.2
        have e : view f ι st.sto w b o = some v := e
        have hnl : ¬ ∃ id, live st.sto id ∧ blkOf (ι id) = some b := fun h => by
          unfold view at e; rw [if_pos h] at e; cases e
        have hn4 : ¬ ∃ id, live S3 id ∧ blkOf (ι3 id) = some b := by
          rintro ⟨id, h1, h2⟩
          rcases hlv id b h1 h2 with ⟨h4, _, _, h5⟩ | ⟨_, _, h4, _, _, h5⟩
          · exact hn ⟨id, h4, h5⟩
          · exact hnl ⟨id, h4, h5⟩
        unfold view at e ⊢
        rw [if_neg hnl] at e
        rw [if_neg hn4]
        split at e
        · rename_i h5; rw [if_pos h5]; exact e
        · rename_i h5
          rw [if_neg h5]
          rw [show w'.cell? ⟨b, o, none⟩ = w.cell? ⟨b, o, none⟩ from World.cell?_of_block (hkeep.block b hb1 hb2)]
          exact e
      · rename_i hb
        have hb : ¬ (b < w.heap.size ∧ ¬ O2 b) := hb
        have hn4 : ¬ ∃ id, live S3 id ∧ blkOf (ι3 id) = some b := by
          rintro ⟨id, h1, h2⟩
          rcases hlv id b h1 h2 with ⟨h4, _, _, h5⟩ | ⟨_, hm, h4, _, _, h5⟩
          · exact hn ⟨id, h4, h5⟩
          · exact hb ⟨(s.blk id).lt h4 h5, hnO id b hm h4 h5⟩
        unfold view
        rw [if_neg hn4, if_neg]
        · exact e
        · rintro ⟨h1, h2⟩
          have h3 : b < w.heap.size := Nat.lt_of_lt_of_le h1 s.keep.size
          have h4 : O2 b := Classical.byContradiction fun h => hb ⟨h3, h⟩
          obtain ⟨id, _, h5, h6⟩ := hO b h4
          rcases s.rng id b h5 h6 with h | h
          · omega
          · exact h2 h
  obtain ⟨k1, k2⟩ := Sim.step (ι' := ι3) (sto' := S3) hf s hle
    (fun id b h1 h2 h3 => by
      rcases hlv id b h1 h2 with ⟨h4, _, _, h5⟩ | ⟨_, _, h4, _, _, h5⟩
      · rcases s2.rng id b h4 h5 with h | h
        · exact absurd h3 (Nat.not_lt.2 h)
        · obtain ⟨i, _, q1, q2⟩ := hO b h; exact ⟨i, q1, q2⟩
      · exact ⟨id, h4, h5⟩)
    (fun b h1 h2 => hkeep.block b h1 (fun h => by obtain ⟨i, _, q1, q2⟩ := hO b h; exact h2 i q1 q2))
    ⟨hkeep.os, hkeep.tape, hkeep.output, hkeep.size, hkeep.drawn, fun _ _ h => (h trivial).elim⟩
    (fun id hl => by
      cases hq : sq.sto id with
      | some x =>
        obtain ⟨h1, h2⟩ := hS1 id x hq
        exact .inr fun _ => (s2.blk id).move hV hle3 (by rw [h1, hq]) h2
      | none =>
        obtain ⟨h1, h2⟩ := hS2 id hq
        by_cases hm : id ∈ moved
        · rw [if_pos hm] at h1
          unfold live at hl
          rw [h1] at hl
          exact hl.elim
        · rw [if_neg hm] at h1
          refine .inl ⟨h1, h2, fun b hb => ?_⟩
          have hl' : live st.sto id := by unfold live at hl ⊢; rw [← h1]; exact hl
          exact hkeep.block b ((s.blk id).lt hl' hb) (hnO id b hm hl' hb))
    (fun id id' b h1 h2 b1 b2 => by
      rcases hlv id b h1 b1 with ⟨c1, _, _, c2⟩ | ⟨_, cm, c1, _, _, c2⟩ <;> rcases hlv id' b h2 b2 with ⟨d1, _, _, d2⟩ | ⟨_, dm, d1, _, _, d2⟩
      · exact s2.inj id id' b c1 d1 c2 d2
      · rcases s2.rng id b c1 c2 with h | h
        · exact absurd ((s.blk id').lt d1 d2) (Nat.not_lt.2 h)
        · exact (hnO id' b dm d1 d2 h).elim
      · rcases s2.rng id' b d1 d2 with h | h
        · exact absurd ((s.blk id).lt c1 c2) (Nat.not_lt.2 h)
        · exact (hnO id b cm c1 c2 h).elim
      · exact s.inj id id' b c1 d1 c2 d2)
    (fun id b h1 b1 => by
      rcases hlv id b h1 b1 with ⟨c1, _, _, c2⟩ | ⟨_, cm, c1, _, _, c2⟩
      · rcases s2.rng id b c1 c2 with h | h
        · exact .inl (Nat.le_trans s.keep.size h)
        · obtain ⟨i, _, q1, q2⟩ := hO b h; exact s.rng i b q1 q2
      · exact s.rng id b c1 c2)
  exact ⟨ι3, k1, hV, k2⟩
end Go.Ab
end
section
namespace Go.Ab
open Go.RowKit
variable {C : Ctx} {P : Program}

theorem look_get (l : List AV) (t : Nat) : look l t = (l[t]?).getD .junk := by
  induction l generalizing t with
  | nil => simp [look]
  | cons a l ih => cases t with
    | zero => rfl
    | succ t => simpa [look] using ih t
theorem decJ_encJ (p : JP) : decJ (encJ p) = p := by
  cases p with
  | mk us ls =>
    have h : (ls.map (U.ofL false)).map U.toL = ls := by
      rw [List.map_map]
      conv => rhs; rw [← List.map_id ls]
      exact List.map_congr_left (fun x _ => toL_ofL false x)
    simp [decJ, encJ, U.nth, toL_ofL, h]
theorem decR_encJ (u : U) (p : JP) : decR (U.ofL false (u :: encJ p)) = p := by
  have := decJ_encJ p
  simpa [decJ, decR, encJ, U.nth, get_ofL] using this
theorem Anew.sim {f : Fr} (hf : FrOk f) {ι ι' : Own} {st : St} {a : Act} {w : World} (s : Sim C f ι st a w) {tp : Tpl} {p : JP} (n : Anew C f ι st a w tp p ι') : Sim C f ι' (unpack tp p) a w := by
  have hH := n.view_le hf s
  refine ⟨fun t => .of (n.env _ hH t), n.size, n.blk _ hH, n.inj, fun i b h1 b1 => ?_, s.keep, s.oth, s.defers⟩
  obtain ⟨id, _, a2, a3⟩ := n.lv i b h1 b1
  exact s.rng id b a2 a3

mutual
theorem stS_dom {p : JP} {id : Nat} : ∀ {sh : Sh} {n m : Nat} {S : Sto}, id ∉ idsS sh → stS p sh n m S id = S id
  | .ow i e, n, m, S, h => by simp only [idsS, List.mem_singleton] at h; simp [stS, nbeq, h]
  | .mp i t, n, m, S, h => by simp only [idsS, List.mem_singleton] at h; simp [stS, nbeq, h]
  | .pb i t fs, n, m, S, h => by
    simp only [idsS, List.mem_cons, not_or] at h
    simp only [stS, nbeq, h.1, decide_false, cond_false]
    exact stL_dom h.2
  | .i _, _, _, _, _ => rfl
  | .b, _, _, _, _ => rfl
  | .s, _, _, _, _ => rfl
  | .sl _, _, _, _, _ => rfl
  | .st _, _, _, _, _ => rfl
  | .fn _, _, _, _, _ => rfl
  | .rp _, _, _, _, _ => rfl
  | .cf _, _, _, _, _ => rfl
  | .cl _ _, _, _, _, _ => rfl
  | .any, _, _, _, _ => rfl
theorem stL_dom {p : JP} {id : Nat} : ∀ {ss : List Sh} {n m : Nat} {S : Sto}, id ∉ idsL ss → stL p ss n m S id = S id
  | [], _, _, _, _ => rfl
  | sh :: ss, n, m, S, h => by
    simp only [idsL, List.mem_append, not_or] at h
    simp only [stL]
    rw [stL_dom h.2, stS_dom h.1]
end

theorem roUs_none : ∀ {caps : List Cap}, (roUs caps).isSome = true → ∀ st, capIds st caps = []
  | [], _, _ => rfl
  | .ro _ _ :: l, h, st => by
    simp only [capIds]
    refine roUs_none ?_ st
    simp only [roUs, Option.isSome_map] at h
    exact h
  | .own _ :: _, h, _ => by simp [roUs] at h

theorem cloAV_rep {H : View} {ι : Own} {st : St} {w : World} (hb : ∀ id, BlkOk C H ι st.sto w id) {slots : List (Nat × Sh)} {j : Nat} {x : AV} {v : Value} (r : RepA C H ι st.sto x v) : RepA C H ι st.sto (cloAV C st slots j x) v := by
  unfold cloAV
  split
  · rename_i t g caps _
    cases hc : ((roUs caps).isSome && fitsArg C st t (.clo g caps)) with
    | false => exact r
    | true =>
      simp only [cond_true]
      simp only [Bool.and_eq_true] at hc
      cases hu : argU C st (.clo g caps) with
      | none => exact r
      | some u =>
        obtain ⟨cs, k1, k2⟩ := argU_rep hb (View.le.refl _) (fun _ h => by simp [ownsOf] at h) (fun i hi => by simp only [argIds, roUs_none hc.1] at hi; cases hi) r hc.2 hu
        have hte : ∃ ps rt, C.te t = some (.fn ps rt) := by
          cases ht : C.te t with
          | none => simp [fitsArg, ht, fitsT] at hc
          | some ty => cases ty <;> first | exact ⟨_, _, rfl⟩ | (simp [fitsArg, ht, fitsT] at hc)
        obtain ⟨ps, rt, ht⟩ := hte
        have : cs = [v] := isVal_inj k1 (isVal_one (fun fs e => by rw [ht] at e; cases e))
        rw [this] at k2
        exact ⟨⟨ps, rt, ht⟩, k2⟩
  · exact r
theorem cloAVs_rep {H : View} {ι : Own} {st : St} {w : World} (hb : ∀ id, BlkOk C H ι st.sto w id) {slots : List (Nat × Sh)} : ∀ {j : Nat} {xs : List AV} {vs : List Value}, xs.length = vs.length → (∀ (i : Nat) (x : AV) (v : Value), xs[i]? = some x → vs[i]? = some v → RepA C H ι st.sto x v) →
    (cloAVs C st slots j xs).length = vs.length ∧ ∀ (i : Nat) (x : AV) (v : Value), (cloAVs C st slots j xs)[i]? = some x → vs[i]? = some v → RepA C H ι st.sto x v
  | j, [], vs, hl, _ => by
    cases vs with
    | nil => simp [cloAVs]
    | cons _ _ => simp at hl
  | j, x :: xs, [], hl, _ => by simp at hl
  | j, x :: xs, v :: vs, hl, h => by
    obtain ⟨h1, h2⟩ := cloAVs_rep hb (slots := slots) (j := j + 1) (xs := xs) (vs := vs) (by simpa using hl) (fun i x' v' a b => h (i + 1) x' v' (by simpa using a) (by simpa using b))
    refine ⟨by simp [cloAVs, h1], fun i x' v' a b => ?_⟩
    cases i with
    | zero =>
      simp [cloAVs] at a b
      subst a; subst b
      exact cloAV_rep hb (h 0 x v rfl rfl)
    | succ i => exact h2 i x' v' (by simpa [cloAVs] using a) (by simpa using b)
theorem caps_get {H : View} {ι : Own} {sto : Sto} : ∀ {caps : List Cap} {vs : List Value}, RepCaps C H ι sto caps vs → (caps.map capAV).length = vs.length ∧ ∀ (i : Nat) (x : AV) (v : Value), (caps.map capAV)[i]? = some x → vs[i]? = some v → RepA C H ι sto x v
  | [], [], _ => by simp
  | c :: caps, v :: vs, k => by
    obtain ⟨h1, h2⟩ := caps_get k.2
    refine ⟨by simpa using h1, fun i x' v' a b => ?_⟩
    cases i with
    | zero =>
      simp at a b
      subst a; subst b
      cases c with
      | own id => exact k.1
      | ro t u => exact k.1
    | succ i => exact h2 i x' v' (by simpa using a) (by simpa using b)
  | [], _ :: _, k => k.elim
  | _ :: _, [], k => k.elim

/-- the state in which a callee begins, while nothing is handed over yet -/
theorem callSt_sound {f : Fr} {ι : Own} {st : St} {a : Act} {w : World} (s : Sim C f ι st a w) {fi : Fn} {ti : Tpl} {as : List AV} {vs : List Value} (hl : as.length = vs.length) (h : ∀ (i : Nat) (x : AV) (v : Value), as[i]? = some x → vs[i]? = some v → RepA C (view f ι st.sto w) ι st.sto x v) :
    Sim C f ι (callSt C fi ti st as) (act0 fi.ntmps vs) w := by
  obtain ⟨h1, h2⟩ := cloAVs_rep s.blk (slots := ti.slots) (j := 0) hl h
  refine ⟨fun t => ?_, ?_, s.blk, s.inj, s.rng, s.keep, s.oth, trivial⟩
  · show RepS C (view f ι st.sto w) ι st.sto _ (look (cloAVs C st ti.slots 0 as ++ List.replicate (fi.ntmps - as.length) .und) t) (tmOf (act0 fi.ntmps vs) t)
    rw [look_get]
    have htm : tmOf (act0 fi.ntmps vs) t = ((vs ++ List.replicate (fi.ntmps - vs.length) undef)[t]?).getD undef := by
      show (vs.toArray ++ Array.replicate (fi.ntmps - vs.length) undef).getD t undef = _
      rw [Array.getD_eq_getD_getElem?, ← Array.getElem?_toList]
      simp
    rw [htm]
    rcases Nat.lt_or_ge t vs.length with ht | ht
    · rw [List.getElem?_append_left (by omega), List.getElem?_append_left ht]
      have e1 : (cloAVs C st ti.slots 0 as)[t]? = some ((cloAVs C st ti.slots 0 as)[t]'(by omega)) := List.getElem?_eq_getElem _
      have e2 : vs[t]? = some (vs[t]'ht) := List.getElem?_eq_getElem _
      rw [e1, e2]
      exact .of (h2 t _ _ e1 e2)
    · rw [List.getElem?_append_right (by omega), List.getElem?_append_right ht, List.getElem?_replicate, List.getElem?_replicate, h1, hl]
      by_cases hq : t - vs.length < fi.ntmps - vs.length
      · rw [if_pos hq, if_pos hq]
        exact .of (show RepA C _ _ _ .und undef from rfl)
      · rw [if_neg hq, if_neg hq]
        exact .of (show RepA C _ _ _ .junk _ from trivial)
  · show (cloAVs C st ti.slots 0 as ++ List.replicate (fi.ntmps - as.length) AV.und).length = (vs.toArray ++ Array.replicate (fi.ntmps - vs.length) undef).size
    simp [h1, hl]
end Go.Ab
end
