/- A call of a function that works on memory of the caller's, from both sides. -/
import Derived.Test.YtnahhhaicalmcaaDoorAbX
set_option linter.unusedVariables false
set_option linter.unusedSimpArgs false
namespace Go.Ab
open Go.RowKit
variable {C : Ctx} {P : Program}

theorem RepTup.data {H H' : View} (hH : H.le H') {ι ι' : Own} {sto sto' : Sto} {u : U} : ∀ {ts : List Nat} {vs : List Value} {j : Nat}, RepTup C H ι sto u (ts.map fun t => (t, none)) vs j → RepTup C H' ι' sto' u (ts.map fun t => (t, none)) vs j
  | [], [], _, _ => trivial
  | t :: ts, v :: vs, j, k => ⟨let ⟨cs, h1, h2⟩ := k.1; ⟨cs, h1, h2.mono hH⟩, RepTup.data hH k.2⟩
  | [], _ :: _, _, k => k.elim
  | _ :: _, [], _, k => k.elim
theorem xput_sound {f : Fr} {ι : Own} {st : St} {a : Act} {w : World} (s : Sim C f ι st a w) {V : View} (hV : V.le (view f ι st.sto w)) {ts : List Nat} {d : Option Nat} {u : U} {v : Value} (h : XRes C V ts u v) : Sim C f ι (xput C st ts d u) (a.put d v) w := by
  obtain ⟨vs, rfl, h⟩ := h
  match ts, vs, h with
  | [], vs, h => exact s.put d (fun _ _ _ => .of (show RepA C _ _ _ .junk _ from trivial))
  | [t], [v], h =>
    obtain ⟨cs, h1, h2⟩ := h.1
    exact s.put d (fun _ _ _ => .of ((h2.mono hV).ofU h1))
  | [t], [], h => exact h.elim
  | [t], _ :: _ :: _, h => exact h.2.elim
  | t :: t' :: ts, v :: v' :: vs, h =>
    refine s.put d (fun _ _ _ => .of ?_)
    exact ⟨v :: v' :: vs, rfl, h.data (ts := t :: t' :: ts) hV⟩
  | t :: t' :: ts, [], h => exact h.elim
  | t :: t' :: ts, [_], h => exact h.2.elim

theorem topIds_mem {st sq cs : St} : ∀ {js : List Nat} {tops : List Nat}, topIds st sq cs js = some tops → ∀ id ∈ tops, ∃ j ∈ js, topId st sq cs j = some id
  | [], tops, h, id, hm => by simp [topIds] at h; subst h; cases hm
  | j :: js, tops, h, id, hm => by
    simp only [topIds] at h
    cases h1 : topId st sq cs j with
    | none => simp [h1] at h
    | some i =>
      cases h2 : topIds st sq cs js with
      | none => simp [h1, h2] at h
      | some ids =>
        simp [h1, h2] at h; subst h
        simp only [List.mem_cons] at hm
        rcases hm with rfl | hm
        · exact ⟨j, List.mem_cons_self .., h1⟩
        · obtain ⟨j', a1, a2⟩ := topIds_mem h2 id hm
          exact ⟨j', List.mem_cons_of_mem _ a1, a2⟩
/-- a slot of which the callee leaves what the caller has -/
theorem andL_all : ∀ {l : List Bool}, andL l = true → ∀ b ∈ l, b = true
  | [], _, b, hb => by cases hb
  | [x], h, b, hb => by simp at hb; subst hb; exact h
  | x :: y :: l, h, b, hb => by
    have h : (x && andL (y :: l)) = true := h
    simp only [Bool.and_eq_true] at h
    rcases List.mem_cons.1 hb with rfl | hb
    · exact h.1
    · exact andL_all h.2 b hb
theorem lenC_mem {st sq : St} {id e e' : Nat} {z z' : Bool} {xs ys : List U} (h1 : st.sto id = some (.arr e z xs)) (h2 : sq.sto id = some (.arr e' z' ys)) : ∀ {l : List Nat}, id ∈ l → decide (ys.length = xs.length) ∈ lenC st sq l
  | [], h => by cases h
  | i :: l, h => by
    rcases List.mem_cons.1 h with rfl | h
    · simp [lenC, h1, h2]
    · have := lenC_mem h1 h2 h
      simp only [lenC]
      split
      · exact List.mem_cons_of_mem _ this
      · exact this
theorem topId_sound {H H2 : View} {ι ι2 : Own} {st sq cs : St} {tm tm2 : Nat → Value} (hcs : cs.sto = st.sto) (h1 : ∀ t, RepS C H ι cs.sto tm (look cs.env t) (tm t)) (h2 : ∀ t, RepA C H2 ι2 sq.sto (look sq.env t) (tm2 t)) {j id : Nat} (htm : tm2 j = tm j) (hlen : ∀ e e' z z' xs ys, st.sto id = some (.arr e z xs) → sq.sto id = some (.arr e' z' ys) → ys.length = xs.length) (h : topId st sq cs j = some id) :
    ι2 id = ι id ∧ ∃ b, sq.sto id = some b ∧ sameKind (st.sto id) (some b) := by
  unfold topId at h
  have r1 := h1 j
  have r2 := h2 j
  split at h
  · rename_i i i' e1 e2
    split at h
    · rename_i t vs t' vs' s1 s2
      obtain ⟨hc, h'⟩ := cond_some h
      clear h
      simp only [Bool.and_eq_true, nbeq, decide_eq_true_eq] at hc
      obtain ⟨rfl, rfl⟩ := hc
      cases h'
      rw [e1] at r1
      rw [e2] at r2
      have r1 : RepPb C ι cs.sto _ [] (tm j) := r1
      have r2 : RepPb C ι2 sq.sto _ [] (tm2 j) := r2
      unfold RepPb at r1 r2
      rw [hcs, s1] at r1
      rw [s2] at r2
      obtain ⟨_, g1, a1, a2⟩ := r1
      obtain ⟨_, g2, b1, b2⟩ := r2
      rw [htm, a2] at b2
      simp only [poff, Value.pointer.injEq, Option.some.injEq, Addr.mk.injEq, and_true] at b2
      subst b2
      exact ⟨by rw [a1, b1], _, s2, by rw [s1]; rfl⟩
    · cases h
  · rename_i i i' e1 e2
    split at h
    · rename_i e z xs e' z' ys s1 s2
      obtain ⟨hc, h'⟩ := cond_some h
      clear h
      simp only [Bool.and_eq_true, nbeq, decide_eq_true_eq] at hc
      obtain ⟨rfl, rfl⟩ := hc
      cases h'
      rw [e1] at r1
      rw [e2] at r2
      have r1 : RepOw C ι cs.sto _ none (tm j) := r1
      have r2 : RepOw C ι2 sq.sto _ none (tm2 j) := r2
      unfold RepOw at r1 r2
      rw [hcs, s1] at r1
      rw [s2] at r2
      exact ⟨by rw [← r1, ← r2, htm], _, s2, by rw [s1]; exact ⟨rfl, hlen _ _ _ _ _ _ s1 s2⟩⟩
    · cases h
  · cases h

theorem axcall_sound (ok : CtxOk P C) {f : Fr} (hf : FrOk f) {ι : Own} {st st' : St} {a : Act} {w : World} (s : Sim C f ι st a w) {F : Nat → List U → Option U} (hF : ∀ g us r, F g us = some r → Spec P C g us r)
    {o : Oper} {c : Call} (ho : o.op = .call c) {r : U} {x : Option U} {k : U → Option (Bool × St)}
    (h : axcall C F st c o.dst = some (x, k)) (hx : x = some r) (hk : k r = some (true, st')) {next : Act → World → Prop} {Q : Exit → Act → World → Prop} (hn : ∀ a' w', a'.defers = a.defers → (∃ ι', Sim C f ι' st' a' w') → next a' w') : o.wp P a w next Q := by
  unfold axcall at h
  split at h
  · rename_i fx hcal
    split at h
    · rename_i g caps hev0
      split at h
      · rename_i fi hfn hxfn
        split at h
        · rename_i ti tu hxt
          split at h
          · rename_i st1 hfz
            have s1 : Sim C f ι st1 a w := freezeX_sound ok hf s hfz
            split at h
            · rename_i g' caps1 hev1
              obtain ⟨hc, h'⟩ := cond_some h
              clear h
              simp only [Bool.and_eq_true, nbeq, decide_eq_true_eq] at hc
              obtain ⟨rfl, hlen⟩ := hc
              split at h'
              · rename_i p hp
                simp only [Option.some.injEq, Prod.mk.injEq] at h'
                obtain ⟨rfl, rfl⟩ := h'
                have hfx := s1.eval fx
                rw [hev1] at hfx
                obtain ⟨cvs, q1, q2⟩ : ∃ vs : List Value, a.eval fx = .func (.func g) #[] vs.toArray ∧ RepCaps C (view f ι st1.sto w) ι st1.sto caps1 vs := hfx
                obtain ⟨cl1, cl2⟩ := caps_get q2
                let vs : List Value := c.args.toList.map a.eval ++ cvs
                let as : List AV := c.args.toList.map (fun x => dropcv (st1.eval x)) ++ caps1.map capAV
                have hal : as.length = vs.length := by simp only [as, vs, List.length_append, List.length_map]; simp at cl1; omega
                have hrep : ∀ (i : Nat) (x : AV) (v : Value), as[i]? = some x → vs[i]? = some v → RepA C (view f ι st1.sto w) ι st1.sto x v := by
                  intro i x v h1 h2
                  rcases Nat.lt_or_ge i c.args.toList.length with hi | hi
                  · rw [List.getElem?_append_left (by simpa using hi)] at h1 h2
                    simp only [List.getElem?_map, Option.map_eq_some_iff] at h1 h2
                    obtain ⟨o1, h3, rfl⟩ := h1
                    obtain ⟨o2, h4, rfl⟩ := h2
                    rw [h3] at h4; cases h4
                    exact (s1.eval o1).dropcv
                  · rw [List.getElem?_append_right (by simpa using hi)] at h1 h2
                    simp only [List.length_map] at h1 h2
                    exact cl2 _ x v h1 h2
                have sc : Sim C f ι (callSt C fi ti st1 as) (act0 fi.ntmps vs) w := callSt_sound s1 hal hrep
                obtain ⟨ι2, n2⟩ := unpack_anew sc hp
                let moved := movedX ti (callSt C fi ti st1 as)
                let O2 : Nat → Prop := fun b => ∃ id, id ∈ moved ∧ live st1.sto id ∧ blkOf (ι id) = some b
                let fX : Fr := ⟨view f ι st1.sto w, w, O2, fun _ _ => False⟩
                have hfX : FrOk fX := ⟨s1.vle hf, fun b o' ⟨id, _, h2, h3⟩ => by
                    show view f ι st1.sto w b o' = none
                    unfold view; exact if_pos ⟨id, h2, h3⟩, fun b ⟨id, _, h2, h3⟩ => (s1.blk id).lt h2 h3, fun _ _ h => h.elim⟩
                have hlv : ∀ tid b, live (unpack ti p).sto tid → blkOf (ι2 tid) = some b → O2 b := by
                  intro tid b h1 h2
                  obtain ⟨id, h3, h4, h5⟩ := n2.lv tid b h1 h2
                  exact ⟨id, List.mem_filterMap.2 ⟨_, h3, rfl⟩, h4, h5⟩
                have hV0 : (view f ι st1.sto w).le (view fX ι2 (unpack ti p).sto w) := by
                  intro b o' v e
                  have hnO : ¬ O2 b := fun ⟨id, _, h2, h3⟩ => by unfold view at e; rw [if_pos ⟨id, h2, h3⟩] at e; cases e
                  have hlt : b < w.heap.size := World.block_lt_of_cell? w _ (s1.vle hf _ _ _ e)
                  unfold view
                  rw [if_neg (fun ⟨tid, h1, h2⟩ => hnO (hlv tid b h1 h2)), if_pos ⟨hlt, hnO⟩]
                  exact e
                have sX : Sim C fX ι2 (unpack ti p) (act0 fi.ntmps vs) w :=
                  ⟨fun t => .of (n2.env _ hV0 t), n2.size, n2.blk _ hV0, n2.inj, fun i b h1 b1 => .inr (hlv i b h1 b1), ⟨rfl, rfl, rfl, Nat.le_refl _, Nat.le_refl _, fun _ _ _ => rfl⟩, fun _ _ h => h.elim, trivial⟩
                have hS := hF g _ r hx
                rcases hS with ⟨fi', h1, _⟩ | ⟨_, fi', h1, h2⟩
                · rw [hfn] at h1; cases h1
                rw [hxfn] at h1; cases h1
                have hD := h2 ti tu hxt fX vs ι2 hfX (fun _ _ h => h) (by simp only [vs, List.length_append, List.length_map]; simp at cl1 hlen ⊢; omega) (by rw [decJ_encJ]; exact sX)
                refine wp_does hD (by have := run_callee (P := P) ho hcal q1 w; simpa [vs] using this) ?_
                rintro v w' ⟨ι', tm, htm, s2, hres⟩
                unfold xret at hk
                split at hk
                · rename_i q hq
                  unfold xret2 at hk
                  split at hk
                  · rename_i tops htops
                    obtain ⟨hcc, hk'⟩ := cond_some hk
                    clear hk
                    simp only [Option.some.injEq, Prod.mk.injEq] at hk'
                    obtain ⟨hlens, hk'⟩ := hk'
                    subst hk'
                    simp only [Bool.and_eq_true, List.all_eq_true, Bool.or_eq_true, List.any_eq_true, nbeq, decide_eq_true_eq] at hcc
                    obtain ⟨hc1, hc2⟩ := hcc
                    obtain ⟨ι4, n4⟩ := unpack_anew s2 hq
                    have s4 := n4.sim hfX s2
                    have hv4 := n4.view_le hfX s2
                    obtain ⟨ι3, s3, e1, e2⟩ := xlay_sound hf s1 (O2 := O2) (moved := moved) (fun b h => h) (fun id b h1 h2 h3 => ⟨id, h1, h2, h3⟩) s4 (fun id b hb => by
                      have hmem : id ∈ idsL ((rnT (callSt C fi ti st1 as) (o.dst.getD 0) tu).slots.map (·.2)) := Classical.byContradiction fun hno => by
                        have : (unpack (rnT (callSt C fi ti st1 as) (o.dst.getD 0) tu) q).sto id = none := stL_dom hno
                        rw [this] at hb; cases hb
                      rcases hc1 id hmem with ⟨i, hi0, hie⟩ | hno
                      · have hi1 : id ∈ tops := by rw [hie]; exact hi0
                        obtain ⟨j, hj, hj2⟩ := topIds_mem htops id hi1
                        obtain ⟨z1, b', z2, z3⟩ := topId_sound (cs := callSt C fi ti st1 as) (j := j) (tm := tmOf (act0 fi.ntmps vs)) (ι2 := ι4) (H2 := view fX ι' (unpack tu (decR r)).sto w') (tm2 := tmOf { tmps := tm, defers := [] }) (st := st1) rfl sc.env (n4.env _ (View.le.refl _)) (by
                          show tm.getD j undef = (act0 fi.ntmps vs).tmps.getD j undef
                          rw [htm j hj]
                          have hjlt : j < vs.length := by
                            apply Classical.byContradiction
                            intro hge
                            unfold topId at hj2
                            have hlk : look (callSt C fi ti st1 as).env j = .und ∨ look (callSt C fi ti st1 as).env j = .junk := by
                              show look (cloAVs C st1 ti.slots 0 as ++ List.replicate (fi.ntmps - as.length) .und) j = _ ∨ look (cloAVs C st1 ti.slots 0 as ++ List.replicate (fi.ntmps - as.length) .und) j = _
                              have hl0 := (cloAVs_rep s1.blk (slots := ti.slots) (j := 0) hal hrep).1
                              rw [look_get, List.getElem?_append_right (by omega), List.getElem?_replicate]
                              split
                              · exact .inl rfl
                              · exact .inr rfl
                            rcases hlk with e | e <;> rw [e] at hj2 <;> simp at hj2
                          simp only [act0]
                          rw [Array.getD_eq_getD_getElem?, ← Array.getElem?_toList]
                          simp only [Array.toList_append, List.getElem?_append_left hjlt]
                          simp [List.getD_eq_getElem?_getD]) (fun e e' z z' xs ys a1 a2 => by simpa using andL_all hlens _ (lenC_mem a1 a2 hi1)) hj2
                        rw [hb] at z2
                        cases z2
                        obtain ⟨i2, y1, y2⟩ := hc2 id hi1
                        exact .inl ⟨by rw [y2]; exact y1, z1, z3⟩
                      · exact .inr (by simpa using hno))
                    exact hn _ _ (put_defers _ _ _) ⟨ι3, xput_sound s3 (hv4.trans e1) hres⟩
                  · cases hk
                · cases hk
              · cases h'
            · cases h
          · cases h
        · cases h
      · cases h
    · cases h
  · cases h
end Go.Ab
