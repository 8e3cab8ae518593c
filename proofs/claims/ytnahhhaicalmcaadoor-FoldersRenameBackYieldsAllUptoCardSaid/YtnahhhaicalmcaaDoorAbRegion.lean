/- Regions in the order of the text. -/
import Derived.Test.YtnahhhaicalmcaaDoorAbX3
import Derived.Tactics
set_option linter.unusedVariables false
set_option linter.unusedSimpArgs false
namespace Go.Ab
open Go.RowKit
variable {C : Ctx} {P : Program}

/-- what is known where a step leads -/
def Nx {R : Type} (C : Ctx) (f : Fr) (ds : List Deferred) (K : St → Option R) (r : R) : Act → World → Prop := fun a w => ∃ ι st, Sim C f ι st a w ∧ K st = some r ∧ a.defers = ds

theorem wp_value {o : Oper} {a : Act} {w w' : World} {v : Value} {next : Act → World → Prop} {Q : Exit → Act → World → Prop} (h : (execOp a.eval o).run P w = .ok (.value v) w') (hn : next (a.put o.dst v) w') : o.wp P a w next Q := by
  unfold Oper.wp; rw [h]; exact hn
theorem wp_skipv {o : Oper} {a : Act} {w w' : World} {next : Act → World → Prop} {Q : Exit → Act → World → Prop} (h : (execOp a.eval o).run P w = .ok .skip w') (hn : next (a.put o.dst undef) w') : o.wp P a w next Q := by
  unfold Oper.wp; rw [h]; exact hn

section
variable {f : Fr} {R : Type} {F : Nat → List U → Option U}
theorem aoperK_sound (ok : CtxOk P C) (zok : ZeroOk P C) (lok : LimOk P C) (hF : ∀ g us r, F g us = some r → Spec P C g us r) (hf : FrOk f) {ι : Own} {st : St} {a : Act} {w : World} (s : Sim C f ι st a w)
    {dr : Bool} {o : Oper} {K : St → Option R} {r : R} (h : aoperK C F dr o st K = some r) {next : Act → World → Prop} (hn : ∀ a' w, Nx C f a.defers K r a' w → next a' w) {Q : Exit → Act → World → Prop} : o.wp P a w next Q := by
  unfold aoperK at h
  cases he : escape C dr st o.op with
  | none => rw [he] at h; simp at h
  | some st1 =>
    rw [he] at h
    simp only at h
    have s1 : Sim C f ι st1 a w := by
      unfold escape at he
      split at he
      · cases he; exact s
      · cases dr with
        | true => simp at he
        | false => exact (freezes_sound ok hf s he).1
    have hev : ∀ x, RepS C (view f ι st1.sto w) ι st1.sto (tmOf a) (st1.eval x) (a.eval x) := fun x => s1.eval x
    cases hp : apure C st1 st1.eval o.op with
    | some p =>
      obtain ⟨safe, v⟩ := p
      rw [hp] at h
      simp only at h
      obtain ⟨rfl, h⟩ := cond_some h
      obtain ⟨q, k1, k2⟩ := apure_sound ok zok (s1.vle hf) s1.blk hev hp
      exact wp_value k1 (hn _ _ ⟨ι, _, s1.put o.dst (fun _ _ _ => .of k2.dropcv), h, put_defers _ _ _⟩)
    | none =>
      rw [hp] at h
      simp only at h
      cases hi : aimp C st1 st1.eval o.op o.dst with
      | some p =>
        obtain ⟨safe, st2⟩ := p
        rw [hi] at h
        simp only at h
        obtain ⟨rfl, h⟩ := cond_some h
        obtain ⟨v, w', k1, ι', k2⟩ := aimp_sound ok zok lok hf s1 hev hi
        rcases k1 with k1 | ⟨k1, rfl⟩
        · exact wp_value k1 (hn _ _ ⟨ι', st2, k2, h, put_defers _ _ _⟩)
        · exact wp_skipv k1 (hn _ _ ⟨ι', st2, k2, h, put_defers _ _ _⟩)
      | none =>
        rw [hi] at h
        simp only at h
        split at h
        · rename_i c hc
          split at h
          · rename_i x k hac
            simp only [Option.bind_eq_some_iff] at h
            obtain ⟨u, hu, h⟩ := h
            split at h
            · rename_i st2 hk
              exact acall_sound ok hf s1 hF hc hev hac hu hk (fun a' w' hd ⟨ι', z⟩ => hn _ _ ⟨ι', st2, z, h, hd⟩)
            · cases h
          · cases dr with
            | true => cases h
            | false =>
              simp only [cond_false] at h
              split at h
              · rename_i x k hac
                simp only [Option.bind_eq_some_iff] at h
                obtain ⟨u, hu, h⟩ := h
                split at h
                · rename_i safe st2 hk
                  obtain ⟨rfl, h⟩ := cond_some h
                  exact axcall_sound ok hf s1 hF hc hac hu hk (fun a' w' hd ⟨ι', z⟩ => hn _ _ ⟨ι', st2, z, h, hd⟩)
                · cases h
              · cases h
        · cases h

theorem gexp_sound {H : View} {ι : Own} {st : St} {tm : Nat → Value} (henv : ∀ t, RepS C H ι st.sto tm (look st.env t) (tm t)) : ∀ (n j : Nat) (w gd : Bool), gexp st n j w = some gd → (tm j = .bool w ↔ gd = true)
  | 0, _, _, _, h => by simp [gexp] at h
  | n + 1, j, w, gd, h => by
    have hj := henv j
    simp only [gexp] at h
    split at h
    · rename_i x hl
      rw [hl] at hj
      have hj : tm j = .bool x := hj
      simp only [Option.some.injEq] at h
      rw [hj, ← h]
      cases w <;> cases x <;> simp
    · rename_i j' w' y hl
      rw [hl] at hj
      simp only [Option.map_eq_some_iff] at h
      obtain ⟨z, hz, rfl⟩ := h
      have ih := gexp_sound henv n j' w' z hz
      by_cases hc : tm j' = .bool w'
      · have h1 : tm j = .bool y := hj.1 hc
        rw [h1, ih.1 hc]
        cases w <;> cases y <;> simp
      · have h1 : tm j = undef := hj.2 hc
        have hzf : z = false := by
          cases z with
          | false => rfl
          | true => exact absurd (ih.2 rfl) hc
        rw [h1, hzf]
        simp [undef]
    · cases h

theorem strip_sound {H : View} {ι : Own} {st : St} {tm : Nat → Value} (henv : ∀ t, RepS C H ι st.sto tm (look st.env t) (tm t)) : ∀ (n j : Nat) (w : Bool) {x : AV} {v : Value}, tm j = .bool w → RepS C H ι st.sto tm x v → RepS C H ι st.sto tm (strip st n j w x) v
  | 0, _, _, _, _, _, h => h
  | n + 1, j, w, x, v, hj, h => by
    have hu := unc_sound hj h
    simp only [strip]
    split
    · rename_i j' w' y hl
      have he := henv j
      rw [hl] at he
      have hc : tm j' = .bool w' := by
        apply Classical.byContradiction
        intro hc
        have := he.2 hc
        rw [hj] at this
        simp [undef] at this
      exact strip_sound henv n j' w' hc hu
    · exact hu

/-- a guarded step -/
theorem aoperG_sound (ok : CtxOk P C) (zok : ZeroOk P C) (hF : ∀ g us r, F g us = some r → Spec P C g us r) (hf : FrOk f) {ι : Own} {st : St} {a : Act} {w : World} (s : Sim C f ι st a w)
    {j : Nat} {wt : Bool} {o : Oper} {K : St → Option R} {r : R} (h : aoperG C F j wt o st K = some r) {next : Act → World → Prop} (hn : ∀ a' w, Nx C f a.defers K r a' w → next a' w) {Q : Exit → Act → World → Prop} :
    (tmOf a j = .bool wt → o.wp P a w next Q) ∧ (tmOf a j ≠ .bool wt → next (a.put o.dst undef) w) := by
  unfold aoperG at h
  cases hg : gexp st 20 j wt with
  | none => rw [hg] at h; simp at h
  | some gd =>
    have hgs := gexp_sound s.env 20 j wt gd hg
    cases hd : o.dst with
    | none => rw [hg, hd] at h; simp at h
    | some d =>
      rw [hg, hd] at h
      simp only at h
      cases hdj : Nat.beq d j with
      | true => rw [hdj] at h; simp at h
      | false =>
        rw [hdj] at h
        simp only [cond_false] at h
        have hne : j ≠ d := by
          rw [nbeq] at hdj
          intro e
          subst e
          simp at hdj
        have htm : ∀ v, tmOf (a.put (some d) v) j = tmOf a j := fun v => by rw [tm_put]; simp [hne]
        -- where the step is not wanted
        have off : ∀ v, tmOf a j ≠ .bool wt → Sim C f ι (st.put (some d) (.cv j wt v)) (a.put (some d) undef) w := by
          intro v hno
          refine s.put (some d) (fun _ _ _ => ⟨fun e => ?_, fun _ => rfl⟩)
          rw [htm] at e
          exact absurd e hno
        have on : ∀ {v : AV} {q : Value} {w' : World}, Sim C f ι st a w' → tmOf a j = .bool wt → RepA C (view f ι st.sto w') ι st.sto v q → Sim C f ι (st.put (some d) (.cv j wt v)) (a.put (some d) q) w' := by
          intro v q w' s' hyes hr
          refine s'.put (some d) (fun _ _ _ => ⟨fun _ => hr, fun e => ?_⟩)
          rw [htm] at e
          exact absurd hyes e
        cases hp : apure C st (fun x => strip st 20 j wt (st.eval x)) o.op with
        | some p =>
          obtain ⟨safe, v⟩ := p
          rw [hp] at h
          simp only at h
          cases hcv : isCv v with
          | true => rw [hcv] at h; simp at h
          | false =>
            rw [hcv] at h
            simp only [cond_false] at h
            obtain ⟨hsafe, h⟩ := cond_some h
            refine ⟨fun hyes => ?_, fun hno => hn _ _ ⟨ι, _, off v hno, h, put_defers _ _ _⟩⟩
            have hgd := hgs.1 hyes
            subst hgd
            simp at hsafe
            subst hsafe
            obtain ⟨q, k1, k2⟩ := apure_sound (a := a) ok zok (s.vle hf) s.blk (fun x => strip_sound s.env 20 j wt hyes (s.eval x)) hp
            refine wp_value k1 (hn _ _ ⟨ι, _, ?_, h, put_defers _ _ _⟩)
            rw [hd]
            exact on s hyes (ev_not_cv k2 hcv)
        | none =>
          rw [hp] at h
          simp only at h
          split at h
          · rename_i c hc
            split at h
            · rename_i fx hcal
              split at h
              · rename_i g caps hst
                split at h
                · rename_i fi cs us hfi hcs hus
                  split at h
                  · rename_i t hrts
                    obtain ⟨hcc, h⟩ := cond_some h
                    simp only [Bool.and_eq_true] at hcc
                    obtain ⟨⟨⟨c1, c2⟩, c34⟩, c5⟩ := hcc
                    simp only [Option.bind_eq_some_iff] at h
                    obtain ⟨x, hx, hK⟩ := h
                    refine ⟨fun hyes => ?_, fun hno => hn _ _ ⟨ι, _, off _ hno, hK, put_defers _ _ _⟩⟩
                    have hgd := hgs.1 hyes
                    subst hgd
                    simp only [cond_true] at hx
                    have hev : ∀ x, RepS C (view f ι st.sto w) ι st.sto (tmOf a) (strip st 20 j wt (st.eval x)) (a.eval x) := fun x => strip_sound s.env 20 j wt hyes (s.eval x)
                    have hfx := hev fx
                    rw [hst] at hfx
                    obtain ⟨cvs, h1, h2⟩ := hfx
                    cases hts : capTs st caps with
                    | none => rw [hts] at c5; simp at c5
                    | some ts =>
                      rw [hts] at c5
                      simp only [beq_iff_eq] at c5
                      subst c5
                      simp only [Bool.or_eq_true, Bool.and_eq_true] at c34
                      rcases c34 with ⟨c3, c4⟩ | c34
                      · obtain ⟨q1, q2, q3⟩ := capUs_rep (V := World.view w) s.blk (s.vle hf) h2 hcs hts (fun id _ b o v _ h => h)
                        refine wp_does (plain_call ok hf s (hF _ _ _ hx) hfi c2 c3 hrts c4 c1 hus (map_rep hev _) (capsL_of q1 q2 q3)) (run_callee hc hcal h1 w) ?_
                        rintro v w' ⟨z1, cs', e1, e2⟩
                        rw [hd]
                        exact hn _ _ ⟨ι, _, on z1 hyes ((e2 _).ofU e1), hK, put_defers _ _ _⟩
                      · simp only [noOwns, Bool.and_eq_true, Bool.not_eq_true'] at c34
                        obtain ⟨q1, q2, q3⟩ := capUs_rep (V := view f ι st.sto w) s.blk (View.le.refl _) h2 hcs hts (by rw [capIds_none c34.1]; intro _ hi; cases hi)
                        refine wp_does (plain_call2 ok hf s (hF _ _ _ hx) hfi c2 hrts (by simpa [Bool.and_eq_true] using c34.2) c1 hus (map_rep hev _) (capsL_of q1 q2 q3)) (run_callee hc hcal h1 w) ?_
                        rintro v w' ⟨z1, cs', e1, e2⟩
                        rw [hd]
                        exact hn _ _ ⟨ι, _, on z1 hyes (e2.ofU e1), hK, put_defers _ _ _⟩
                  · cases h
                · cases h
              · rename_i t u hst
                split at h
                · rename_i ps t' us hte hus
                  obtain ⟨hcc, h⟩ := cond_some h
                  simp only [Bool.and_eq_true] at hcc
                  simp only [Option.bind_eq_some_iff] at h
                  obtain ⟨x, hx, hK⟩ := h
                  refine ⟨fun hyes => ?_, fun hno => hn _ _ ⟨ι, _, off _ hno, hK, put_defers _ _ _⟩⟩
                  have hgd := hgs.1 hyes
                  subst hgd
                  simp only [cond_true] at hx
                  have hev : ∀ x, RepS C (view f ι st.sto w) ι st.sto (tmOf a) (strip st 20 j wt (st.eval x)) (a.eval x) := fun x => strip_sound s.env 20 j wt hyes (s.eval x)
                  have hfx := hev fx
                  rw [hst] at hfx
                  obtain ⟨_, hrep⟩ := hfx
                  generalize hfv : a.eval fx = fv at hrep
                  cases hrep with
                  | @fn _ ps' r' _ fi ad cs h' hfi hp hr ho hu hl ha hcc2 =>
                    rw [hte] at h'; cases h'
                    subst hp
                    refine wp_does (plain_call ok hf s (hF _ _ _ hx) hfi ho hu hr hcc.2 hcc.1 hus (map_rep hev _) (cvs := (List.range fi.caps.length).map fun j => .pointer (some (ad j))) ?_) (run_callee hc hcal hfv w) ?_
                    · refine capsL_of (by simp) (by simp [toL_len, hl]) (fun j hj => ?_)
                      rw [toL_nth u j (by omega)]
                      refine ⟨ad j, cs j, by simp [List.getD, hj], (ha j hj).1, (ha j hj).2.mono (s.vle hf), (hcc2 j hj).mono (s.vle hf)⟩
                    · rintro v w' ⟨z1, cs', e1, e2⟩
                      rw [hd]
                      exact hn _ _ ⟨ι, _, on z1 hyes ((e2 _).ofU e1), hK, put_defers _ _ _⟩
                  | _ => simp_all
                · cases h
              · cases h
            · cases h
          · cases h

theorem wanted_of {ops : Array Oper} {o : Oper} {a : Act} {j j' : Nat} {wt : Bool} (hg : o.guard = some (j', wt)) (hd : dstOf ops.toList j' = some j) : Region.wanted o (yielded ops a.tmps) = true ↔ tmOf a j = .bool wt := by
  have h1 : (ops[j']?).bind (·.dst) = some j := by
    unfold dstOf at hd
    rw [Array.getElem?_toList] at hd
    cases hc : ops[j']? with
    | none => rw [hc] at hd; cases hd
    | some oj => rw [hc] at hd; exact hd
  unfold Region.wanted yielded
  rw [hg]
  simp only [h1, Option.bind_some, beq_iff_eq, tmOf, Array.getD_eq_getD_getElem?]
  cases hc : a.tmps[j]? with
  | none => simp [undef]
  | some v =>
    simp only [Option.getD_some]
    cases v <;> simp

theorem aopsK_sound (ok : CtxOk P C) (zok : ZeroOk P C) (lok : LimOk P C) (hF : ∀ g us r, F g us = some r → Spec P C g us r) (hf : FrOk f) {dr : Bool} {ops : Array Oper} {K : St → Option R} {r : R} {Q : Exit → Act → World → Prop} {ds : List Deferred} (hn : ∀ a w, Nx C f ds K r a w → Q .normal a w) :
    ∀ {l : List Oper} {ι : Own} {st : St} {a : Act} {w : World}, a.defers = ds → Sim C f ι st a w → aopsK C F dr ops.toList l st K = some r → wpList P ops Q l a w
  | [], ι, st, a, w, e0, s, h => hn _ _ ⟨ι, _, s.drop, h, e0⟩
  | o :: l, ι, st, a, w, e0, s, h => by
    simp only [aopsK] at h
    unfold wpList
    cases hg : o.guard with
    | none =>
      rw [hg] at h
      have hw : Region.wanted o (yielded ops a.tmps) = true := by simp [Region.wanted, hg]
      rw [if_pos hw]
      exact .inl (aoperK_sound ok zok lok hF hf s h (fun a w ⟨ι', st', z, hz, e1⟩ => aopsK_sound ok zok lok hF hf hn (e1.trans e0) z hz))
    | some p =>
      obtain ⟨j', wt⟩ := p
      rw [hg] at h
      simp only at h
      cases hd : dstOf ops.toList j' with
      | none => rw [hd] at h; cases h
      | some j =>
        rw [hd] at h
        simp only at h
        obtain ⟨h1, h2⟩ := aoperG_sound ok zok hF hf s h (fun a w ⟨ι', st', z, hz, e1⟩ => aopsK_sound ok zok lok hF hf hn (e1.trans e0) z hz) (Q := Q) (next := wpList P ops Q l)
        by_cases hw : Region.wanted o (yielded ops a.tmps) = true
        · rw [if_pos hw]
          exact .inl (h1 ((wanted_of hg hd).1 hw))
        · rw [if_neg hw]
          exact h2 (fun e => hw ((wanted_of hg hd).2 e))

/-- a slot of which the value is known -/
theorem Sim.known {ι : Own} {st : St} {a : Act} {w : World} (s : Sim C f ι st a w) {j : Nat} {b : Bool} (h : tmOf a j = .bool b) : Sim C f ι (st.known j b) a w := by
  refine ⟨fun t => ?_, by simp [St.known, length_setl, s.size], s.blk, s.inj, s.rng, s.keep, s.oth, s.defers⟩
  simp only [St.known, look_setl]
  by_cases ht : t = j
  · subst ht
    simp only [if_true]
    split
    · exact h
    · trivial
  · simp only [ht, if_false]
    exact s.env t
/-- a block that none holds gets other marks -/
theorem Sim.marked {ι : Own} {st : St} {a : Act} {w : World} (s : Sim C f ι st a w) (hf : FrOk f) {g : Nat} {cur : Array Value} {t : TypeId} {fr : Nat × Nat} (fr' : Nat × Nat) (h : w.heap[g]? = some (.cells cur t fr))
    (hn : ∀ id, live st.sto id → blkOf (ι id) ≠ some g) (hr : f.w0.heap.size ≤ g ∨ f.O g) : Sim C f ι st a (w.putObj g (.cells cur t fr')) := by
  have hlt : g < w.heap.size := (Array.getElem?_eq_some_iff.1 h).1
  have hcell : ∀ x, (w.putObj g (.cells cur t fr')).cell? x = w.cell? x := by
    intro x
    by_cases e : x.block = g
    · unfold World.cell?
      rw [e, h, World.putObj_heap_same hlt]
    · exact World.cell?_of_block (World.putObj_heap_other e)
  have hv : view f ι st.sto (w.putObj g (.cells cur t fr')) = view f ι st.sto w := by
    funext b x
    unfold view
    rw [hcell]
  have hN : ∀ (k : Nat) (o : Obj), w.heap[k]? = some o → ownable o = false → (w.putObj g (.cells cur t fr')).heap[k]? = some o := fun k o h1 h2 => by
    rw [World.putObj_heap_other]
    · exact h1
    · rintro rfl
      rw [h] at h1; cases h1; cases h2
  refine ⟨fun t => by rw [hv]; exact s.env t, s.size, fun id => ?_, s.inj, s.rng, ?_, fun k o x => hN k o (s.oth k o x) (hf.kpc k o x), Marks.mono hN s.defers⟩
  · rw [hv]
    have hb := s.blk id
    unfold BlkOk at hb ⊢
    cases hs : st.sto id with
    | none => trivial
    | some x =>
      rw [hs] at hb
      cases x with
      | dead => trivial
      | arr e z xs =>
        obtain ⟨cs, k1, k2, k3, k4⟩ := hb
        refine ⟨cs, ⟨k1.1, ?_⟩, k2, k3, k4⟩
        rcases k1.2 with k | ⟨g', cap, cur', e1, e2, e3, r⟩
        · exact .inl k
        · exact .inr ⟨g', cap, cur', e1, e2, by rw [World.putObj_heap_other (fun e => hn id (live_arr hs) (by simp [e1, blkOf, e]))]; exact e3, r⟩
      | box t vs =>
        obtain ⟨g', cur', k1, k2, k3, k4⟩ := hb
        exact ⟨g', cur', k1, by rw [World.putObj_heap_other (fun e => hn id (live_box hs) (by simp [k1, blkOf, e]))]; exact k2, k3, k4⟩
      | mp t us =>
        obtain ⟨g', es, clock, kt, vt, bt, k1, k2, k3, k4⟩ := hb
        exact ⟨g', es, clock, kt, vt, bt, k1, by rw [World.putObj_heap_other (fun e => hn id (live_mp hs) (by simp [k1, blkOf, e]))]; exact k2, k3, k4⟩
  · refine ⟨s.keep.os, s.keep.tape, s.keep.output, by have := s.keep.size; simp; omega, s.keep.drawn, fun k hk hO => ?_⟩
    rw [World.putObj_heap_other (by rintro rfl; rcases hr with h | h; omega; exact hO h)]
    exact s.keep.block k hk hO
theorem convOwn_sound (ok : CtxOk P C) (hf : FrOk f) {ι : Own} {st : St} {a : Act} {w : World} (s : Sim C f ι st a w) {o : Oper} {st' : St} (h : convOwn C st o = some st') :
    ∃ v w', (execOp a.eval o).run P w = .ok (.value v) w' ∧ Sim C f ι st' (a.put o.dst v) w' := by
  unfold convOwn at h
  split at h
  · rename_i t1 t2 x d hop hd
    split at h
    · rename_i id e hx he
      split at h
      · rename_i e' xs hs hu8
        obtain ⟨hc, hfz⟩ := cond_some h
        clear h
        simp only [Bool.and_eq_true] at hc
        obtain ⟨hc1, hc2⟩ := hc
        obtain rfl := Nat.eq_of_beq_eq_true hc1
        obtain rfl := Nat.eq_of_beq_eq_true hc2
        have hte := elt_some he
        have hxv := s.eval x
        rw [hx] at hxv
        have hxv' : RepOw C ι st.sto id none (a.eval x) := hxv
        unfold RepOw at hxv'
        rw [hs] at hxv'
        have hxv' : a.eval x = ι id := hxv'
        obtain ⟨cs, k1, k2, k3, k4⟩ := (s.blk id).arr hs
        rcases k1.2 with ⟨e0, _⟩ | ⟨g, cap, cur, e1, e2, e3, e4, e5, e6, e7⟩
        · have := k3.1 e0; simp at this
        have hu := ok.und _ _ hte
        have hu8' := ok.und _ _ hu8
        simp only at hu hu8'
        have hrun : (convert t1 t1 (a.eval x)).run P w = .ok (a.eval x) (w.putObj g (.cells cur e (cur.size, cur.size + 1))) := by
          rw [hxv', e1]
          have hfr : w.freeze ⟨g, cur.size, none⟩ 1 = w.putObj g (.cells cur e (cur.size, cur.size + 1)) := by
            have hlt : g < w.heap.size := (Array.getElem?_eq_some_iff.1 e3).1
            unfold World.freeze World.putObj
            simp only [Nat.succ_ne_zero, if_false]
            congr 1
            apply Array.ext_getElem?
            intro k
            rw [Array.getElem?_modify, Array.getElem?_setIfInBounds]
            by_cases hk : g = k
            · subst hk
              have hg' : w.heap[g] = .cells cur e (0, 0) := (Array.getElem?_eq_some_iff.1 e3).2
              simp [hlt, hg']
            · simp [hk]
          have hsh : w.shape? g = some (e, cur.size) := by simp [World.shape?, e3]
          simp [convert, run_underlying hu, run_underlying hu8', markStringish, hsh, hfr]
        have s0 : Sim C f ι (st.put (some d) (.ow id none)) (a.put (some d) (a.eval x)) w := s.put (some d) fun _ _ _ => .of (by
          show RepOw C ι st.sto id none (a.eval x)
          unfold RepOw; rw [hs]; exact hxv')
        obtain ⟨s1, _, _⟩ := freeze1_sound ok hf s0 hfz
        have hlv : live st.sto id := live_arr hs
        have hdead : ∀ i, live st'.sto i → i ≠ id ∧ live st.sto i := by
          intro i hi
          have hsto : (st.put (some d) (.ow id none)).sto = st.sto := rfl
          obtain ⟨e9, z9, xs9, h9, h10⟩ := freeze1_sto hfz
          rw [h10] at hi
          obtain ⟨h11, h12⟩ := frz_live hi
          exact ⟨h11, h12⟩
        refine ⟨a.eval x, w.putObj g (.cells cur e (cur.size, cur.size + 1)), ?_, ?_⟩
        rotate_left
        · rw [hd]
          exact s1.marked hf _ e3 (fun i hi hb => by
            obtain ⟨h1, h2⟩ := hdead i hi
            exact h1 (s.inj i id g h2 hlv hb (by rw [e1]; rfl))) (s.rng id g hlv (by rw [e1]; rfl))
        · unfold execOp
          rw [hop]
          simp [hrun]
      · cases h
    · cases h
  · cases h
theorem pick_sound {ι : Own} {st : St} {a : Act} {w : World} (s : Sim C f ι st a w) {o : Oper} {c : Bool} {x y : AV} (h : pickOf st o.op = some (c, x, y)) :
    ∃ v, (execOp a.eval o).run P w = .ok (.value v) w ∧ Sim C f ι (st.put o.dst (dropcv (bif c then x else y))) (a.put o.dst v) w := by
  unfold pickOf at h
  split at h
  · rename_i tc x' y' hop
    split at h
    · rename_i c' hc
      simp only [Option.some.injEq, Prod.mk.injEq] at h
      obtain ⟨rfl, rfl, rfl⟩ := h
      have hcv := s.env tc
      rw [hc] at hcv
      have hcv : tmOf a tc = .bool c' := hcv
      have he : a.eval (.tmp tc) = .bool c' := hcv
      refine ⟨bif c' then a.eval x' else a.eval y', ?_, ?_⟩
      · unfold execOp
        rw [hop]
        cases c' <;> simp [he, asBool]
      · refine s.put o.dst fun _ _ _ => ?_
        cases c' with
        | true => exact .of (s.eval x').dropcv
        | false => exact .of (s.eval y').dropcv
    · cases h
  · cases h
theorem aopsS_sound (ok : CtxOk P C) (zok : ZeroOk P C) (lok : LimOk P C) (hF : ∀ g us r, F g us = some r → Spec P C g us r) (hf : FrOk f) {ops : Array Oper} {K : St → Option R} {r : R} {Q : Exit → Act → World → Prop} {ds : List Deferred} (hn : ∀ a w, Nx C f ds K r a w → Q .normal a w) :
    ∀ {l : List Oper} {ι : Own} {st : St} {a : Act} {w : World}, a.defers = ds → Sim C f ι st a w → aopsS C F ops.toList l st K = some r → wpList P ops Q l a w
  | [], ι, st, a, w, e0, s, h => hn _ _ ⟨ι, _, s.drop, h, e0⟩
  | o :: l, ι, st, a, w, e0, s, h => by
    simp only [aopsS] at h
    unfold wpList
    cases hg : o.guard with
    | none =>
      rw [hg] at h
      have hw : Region.wanted o (yielded ops a.tmps) = true := by simp [Region.wanted, hg]
      rw [if_pos hw]
      refine .inl ?_
      cases hco : convOwn C st o with
      | some st' =>
        rw [hco] at h
        obtain ⟨v, w', k1, k2⟩ := convOwn_sound ok hf s hco
        exact wp_value k1 (aopsS_sound ok zok lok hF hf hn ((put_defers _ _ _).trans e0) k2 h)
      | none =>
        rw [hco] at h
        cases hpk : pickOf st o.op with
        | some q =>
          obtain ⟨c, x, y⟩ := q
          rw [hpk] at h
          obtain ⟨v, k1, k2⟩ := pick_sound s hpk
          refine wp_value k1 (aopsS_sound ok zok lok hF hf hn ((put_defers _ _ _).trans e0) k2 ?_)
          cases c <;> exact h
        | none =>
          rw [hpk] at h
          exact aoperK_sound ok zok lok hF hf s h (fun a w ⟨ι', st', z, hz, e1⟩ => aopsS_sound ok zok lok hF hf hn (e1.trans e0) z hz)
    | some p =>
      obtain ⟨j', wt⟩ := p
      rw [hg] at h
      simp only at h
      cases hd : dstOf ops.toList j' with
      | none => rw [hd] at h; cases h
      | some j =>
        rw [hd] at h
        simp only at h
        have hskip : ∀ (st1 : St), Sim C f ι st1 a w → aopsS C F ops.toList l (st1.put o.dst .und) K = some r → wpList P ops Q l (a.put o.dst undef) w := fun st1 s1 h1 =>
          aopsS_sound ok zok lok hF hf hn ((put_defers _ _ _).trans e0) (s1.put o.dst fun d' e1 e2 => .of (show RepA C (view f ι st1.sto w) ι st1.sto .und undef from rfl)) h1
        have hjv := s.env j
        split at h
        · rename_i x hx
          rw [hx] at hjv
          have hjv : tmOf a j = .bool x := hjv
          by_cases hwt : x = wt
          · subst hwt
            have hb : (bif x then x else !x) = true := by cases x <;> rfl
            rw [hb] at h
            simp only [cond_true] at h
            rw [if_pos ((wanted_of hg hd).2 hjv)]
            exact .inl (aoperK_sound ok zok lok hF hf (s.known hjv) h (fun a w ⟨ι', st', z, hz, e1⟩ => aopsS_sound ok zok lok hF hf hn (e1.trans e0) z hz))
          · have hx2 : x = !wt := by cases x <;> cases wt <;> simp_all
            have hb : (bif wt then x else !x) = false := by rw [hx2]; cases wt <;> rfl
            rw [hb] at h
            simp only [cond_false] at h
            rw [if_neg (fun e => by have := (wanted_of hg hd).1 e; rw [hjv] at this; cases this; exact hwt rfl)]
            exact hskip _ (s.known (by rw [hjv, hx2])) h
        · rename_i hx
          rw [hx] at hjv
          have hjv : tmOf a j = undef := hjv
          rw [if_neg (fun e => by have := (wanted_of hg hd).1 e; rw [hjv] at this; cases this)]
          exact hskip _ s h
        · cases h
end

end Go.Ab
