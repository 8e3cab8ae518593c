/- Regions in the order of the text. -/
import Derived.Test.YtegmhhojpngklaaAbImp5
import Derived.Tactics
namespace Go.Ab
open Go.RowKit
variable {C : Ctx} {P : Program}

/-- what is known where a step leads -/
def Nx {R : Type} (C : Ctx) (f : Fr) (K : St → Option R) (r : R) : Act → World → Prop := fun a w => ∃ ι st, Sim C f ι st a w ∧ K st = some r

theorem wp_value {o : Oper} {a : Act} {w w' : World} {v : Value} {next : Act → World → Prop} {Q : Exit → Act → World → Prop} (h : (execOp a.eval o).run P w = .ok (.value v) w') (hn : next (a.put o.dst v) w') : o.wp P a w next Q := by
  unfold Oper.wp; rw [h]; exact hn
theorem wp_skipv {o : Oper} {a : Act} {w w' : World} {next : Act → World → Prop} {Q : Exit → Act → World → Prop} (h : (execOp a.eval o).run P w = .ok .skip w') (hn : next (a.put o.dst undef) w') : o.wp P a w next Q := by
  unfold Oper.wp; rw [h]; exact hn

section
variable {f : Fr} {R : Type} {F : Nat → List U → Option U}
theorem aoperK_sound (ok : CtxOk P C) (zok : ZeroOk P C) (lok : LimOk P C) (hF : ∀ g us r, F g us = some r → Spec P C g us r) (hf : FrOk f) {ι : Own} {st : St} {a : Act} {w : World} (s : Sim C f ι st a w)
    {dr : Bool} {o : Oper} {K : St → Option R} {r : R} (h : aoperK C F dr o st K = some r) {next : Act → World → Prop} (hn : ∀ a w, Nx C f K r a w → next a w) {Q : Exit → Act → World → Prop} : o.wp P a w next Q := by
  unfold aoperK at h
  cases he : escape C dr st o.op with
  | none => rw [he] at h; simp at h
  | some st1 =>
    rw [he] at h
    simp only at h
    have s1 : Sim C f ι st1 a w := by
      unfold escape at he
      split at he
      · cases he; exact s
      · cases dr with
        | true => simp at he
        | false => exact (freezes_sound ok hf s he).1
    have hev : ∀ x, RepS C (view f ι st1.sto w) ι st1.sto (tmOf a) (st1.eval x) (a.eval x) := fun x => s1.eval x
    cases hp : apure C st1 st1.eval o.op with
    | some p =>
      obtain ⟨safe, v⟩ := p
      rw [hp] at h
      simp only at h
      obtain ⟨rfl, h⟩ := cond_some h
      obtain ⟨q, k1, k2⟩ := apure_sound ok zok (s1.vle hf) s1.blk hev hp
      exact wp_value k1 (hn _ _ ⟨ι, _, s1.put o.dst (fun _ _ _ => .of k2.dropcv), h⟩)
    | none =>
      rw [hp] at h
      simp only at h
      cases hi : aimp C st1 st1.eval o.op o.dst with
      | some p =>
        obtain ⟨safe, st2⟩ := p
        rw [hi] at h
        simp only at h
        obtain ⟨rfl, h⟩ := cond_some h
        obtain ⟨v, w', k1, ι', k2⟩ := aimp_sound ok zok lok hf s1 hev hi
        rcases k1 with k1 | ⟨k1, rfl⟩
        · exact wp_value k1 (hn _ _ ⟨ι', st2, k2, h⟩)
        · exact wp_skipv k1 (hn _ _ ⟨ι', st2, k2, h⟩)
      | none =>
        rw [hi] at h
        simp only at h
        split at h
        · rename_i c hc
          split at h
          · rename_i x k hac
            simp only [Option.bind_eq_some_iff] at h
            obtain ⟨u, hu, h⟩ := h
            split at h
            · rename_i st2 hk
              exact acall_sound ok hf s1 hF hc hev hac hu hk (fun a' w' ⟨ι', z⟩ => hn _ _ ⟨ι', st2, z, h⟩)
            · cases h
          · cases h
        · cases h

theorem gexp_sound {H : View} {ι : Own} {st : St} {tm : Nat → Value} (henv : ∀ t, RepS C H ι st.sto tm (look st.env t) (tm t)) : ∀ (n j : Nat) (w gd : Bool), gexp st n j w = some gd → (tm j = .bool w ↔ gd = true)
  | 0, _, _, _, h => by simp [gexp] at h
  | n + 1, j, w, gd, h => by
    have hj := henv j
    simp only [gexp] at h
    split at h
    · rename_i x hl
      rw [hl] at hj
      have hj : tm j = .bool x := hj
      simp only [Option.some.injEq] at h
      rw [hj, ← h]
      cases w <;> cases x <;> simp
    · rename_i j' w' y hl
      rw [hl] at hj
      simp only [Option.map_eq_some_iff] at h
      obtain ⟨z, hz, rfl⟩ := h
      have ih := gexp_sound henv n j' w' z hz
      by_cases hc : tm j' = .bool w'
      · have h1 : tm j = .bool y := hj.1 hc
        rw [h1, ih.1 hc]
        cases w <;> cases y <;> simp
      · have h1 : tm j = undef := hj.2 hc
        have hzf : z = false := by
          cases z with
          | false => rfl
          | true => exact absurd (ih.2 rfl) hc
        rw [h1, hzf]
        simp [undef]
    · cases h

theorem strip_sound {H : View} {ι : Own} {st : St} {tm : Nat → Value} (henv : ∀ t, RepS C H ι st.sto tm (look st.env t) (tm t)) : ∀ (n j : Nat) (w : Bool) {x : AV} {v : Value}, tm j = .bool w → RepS C H ι st.sto tm x v → RepS C H ι st.sto tm (strip st n j w x) v
  | 0, _, _, _, _, _, h => h
  | n + 1, j, w, x, v, hj, h => by
    have hu := unc_sound hj h
    simp only [strip]
    split
    · rename_i j' w' y hl
      have he := henv j
      rw [hl] at he
      have hc : tm j' = .bool w' := by
        apply Classical.byContradiction
        intro hc
        have := he.2 hc
        rw [hj] at this
        simp [undef] at this
      exact strip_sound henv n j' w' hc hu
    · exact hu

/-- a guarded step -/
theorem aoperG_sound (ok : CtxOk P C) (zok : ZeroOk P C) (hF : ∀ g us r, F g us = some r → Spec P C g us r) (hf : FrOk f) {ι : Own} {st : St} {a : Act} {w : World} (s : Sim C f ι st a w)
    {j : Nat} {wt : Bool} {o : Oper} {K : St → Option R} {r : R} (h : aoperG C F j wt o st K = some r) {next : Act → World → Prop} (hn : ∀ a w, Nx C f K r a w → next a w) {Q : Exit → Act → World → Prop} :
    (tmOf a j = .bool wt → o.wp P a w next Q) ∧ (tmOf a j ≠ .bool wt → next (a.put o.dst undef) w) := by
  unfold aoperG at h
  cases hg : gexp st 20 j wt with
  | none => rw [hg] at h; simp at h
  | some gd =>
    have hgs := gexp_sound s.env 20 j wt gd hg
    cases hd : o.dst with
    | none => rw [hg, hd] at h; simp at h
    | some d =>
      rw [hg, hd] at h
      simp only at h
      cases hdj : Nat.beq d j with
      | true => rw [hdj] at h; simp at h
      | false =>
        rw [hdj] at h
        simp only [cond_false] at h
        have hne : j ≠ d := by
          rw [nbeq] at hdj
          intro e
          subst e
          simp at hdj
        have htm : ∀ v, tmOf (a.put (some d) v) j = tmOf a j := fun v => by rw [tm_put]; simp [hne]
        -- where the step is not wanted
        have off : ∀ v, tmOf a j ≠ .bool wt → Sim C f ι (st.put (some d) (.cv j wt v)) (a.put (some d) undef) w := by
          intro v hno
          refine s.put (some d) (fun _ _ _ => ⟨fun e => ?_, fun _ => rfl⟩)
          rw [htm] at e
          exact absurd e hno
        have on : ∀ {v : AV} {q : Value} {w' : World}, Sim C f ι st a w' → tmOf a j = .bool wt → RepA C (view f ι st.sto w') ι st.sto v q → Sim C f ι (st.put (some d) (.cv j wt v)) (a.put (some d) q) w' := by
          intro v q w' s' hyes hr
          refine s'.put (some d) (fun _ _ _ => ⟨fun _ => hr, fun e => ?_⟩)
          rw [htm] at e
          exact absurd hyes e
        cases hp : apure C st (fun x => strip st 20 j wt (st.eval x)) o.op with
        | some p =>
          obtain ⟨safe, v⟩ := p
          rw [hp] at h
          simp only at h
          cases hcv : isCv v with
          | true => rw [hcv] at h; simp at h
          | false =>
            rw [hcv] at h
            simp only [cond_false] at h
            obtain ⟨hsafe, h⟩ := cond_some h
            refine ⟨fun hyes => ?_, fun hno => hn _ _ ⟨ι, _, off v hno, h⟩⟩
            have hgd := hgs.1 hyes
            subst hgd
            simp at hsafe
            subst hsafe
            obtain ⟨q, k1, k2⟩ := apure_sound (a := a) ok zok (s.vle hf) s.blk (fun x => strip_sound s.env 20 j wt hyes (s.eval x)) hp
            refine wp_value k1 (hn _ _ ⟨ι, _, ?_, h⟩)
            rw [hd]
            exact on s hyes (ev_not_cv k2 hcv)
        | none =>
          rw [hp] at h
          simp only at h
          split at h
          · rename_i c hc
            split at h
            · rename_i fx hcal
              split at h
              · rename_i g caps hst
                split at h
                · rename_i fi cs us hfi hcs hus
                  split at h
                  · rename_i t hrts
                    obtain ⟨hcc, h⟩ := cond_some h
                    simp only [Bool.and_eq_true] at hcc
                    obtain ⟨⟨⟨c1, c2⟩, c34⟩, c5⟩ := hcc
                    simp only [Option.bind_eq_some_iff] at h
                    obtain ⟨x, hx, hK⟩ := h
                    refine ⟨fun hyes => ?_, fun hno => hn _ _ ⟨ι, _, off _ hno, hK⟩⟩
                    have hgd := hgs.1 hyes
                    subst hgd
                    simp only [cond_true] at hx
                    have hev : ∀ x, RepS C (view f ι st.sto w) ι st.sto (tmOf a) (strip st 20 j wt (st.eval x)) (a.eval x) := fun x => strip_sound s.env 20 j wt hyes (s.eval x)
                    have hfx := hev fx
                    rw [hst] at hfx
                    obtain ⟨cvs, h1, h2⟩ := hfx
                    cases hts : capTs st caps with
                    | none => rw [hts] at c5; simp at c5
                    | some ts =>
                      rw [hts] at c5
                      simp only [beq_iff_eq] at c5
                      subst c5
                      simp only [Bool.or_eq_true, Bool.and_eq_true] at c34
                      rcases c34 with ⟨c3, c4⟩ | c34
                      · obtain ⟨q1, q2, q3⟩ := capUs_rep (V := World.view w) s.blk (s.vle hf) h2 hcs hts (fun id _ b o v _ h => h)
                        refine wp_does (plain_call ok hf s (hF _ _ _ hx) hfi c2 c3 hrts c4 c1 hus (map_rep hev _) (capsL_of q1 q2 q3)) (run_callee hc hcal h1 w) ?_
                        rintro v w' ⟨z1, cs', e1, e2⟩
                        rw [hd]
                        exact hn _ _ ⟨ι, _, on z1 hyes ((e2 _).ofU e1), hK⟩
                      · simp only [noOwns, Bool.and_eq_true, Bool.not_eq_true'] at c34
                        obtain ⟨q1, q2, q3⟩ := capUs_rep (V := view f ι st.sto w) s.blk (View.le.refl _) h2 hcs hts (by rw [capIds_none c34.1]; intro _ hi; cases hi)
                        refine wp_does (plain_call2 ok hf s (hF _ _ _ hx) hfi c2 hrts (by simpa [Bool.and_eq_true] using c34.2) c1 hus (map_rep hev _) (capsL_of q1 q2 q3)) (run_callee hc hcal h1 w) ?_
                        rintro v w' ⟨z1, cs', e1, e2⟩
                        rw [hd]
                        exact hn _ _ ⟨ι, _, on z1 hyes (e2.ofU e1), hK⟩
                  · cases h
                · cases h
              · rename_i t u hst
                split at h
                · rename_i ps t' us hte hus
                  obtain ⟨hcc, h⟩ := cond_some h
                  simp only [Bool.and_eq_true] at hcc
                  simp only [Option.bind_eq_some_iff] at h
                  obtain ⟨x, hx, hK⟩ := h
                  refine ⟨fun hyes => ?_, fun hno => hn _ _ ⟨ι, _, off _ hno, hK⟩⟩
                  have hgd := hgs.1 hyes
                  subst hgd
                  simp only [cond_true] at hx
                  have hev : ∀ x, RepS C (view f ι st.sto w) ι st.sto (tmOf a) (strip st 20 j wt (st.eval x)) (a.eval x) := fun x => strip_sound s.env 20 j wt hyes (s.eval x)
                  have hfx := hev fx
                  rw [hst] at hfx
                  obtain ⟨_, hrep⟩ := hfx
                  generalize hfv : a.eval fx = fv at hrep
                  cases hrep with
                  | @fn _ ps' r' _ fi ad cs h' hfi hp hr ho hu hl ha hcc2 =>
                    rw [hte] at h'; cases h'
                    subst hp
                    refine wp_does (plain_call ok hf s (hF _ _ _ hx) hfi ho hu hr hcc.2 hcc.1 hus (map_rep hev _) (cvs := (List.range fi.caps.length).map fun j => .pointer (some (ad j))) ?_) (run_callee hc hcal hfv w) ?_
                    · refine capsL_of (by simp) (by simp [toL_len, hl]) (fun j hj => ?_)
                      rw [toL_nth u j (by omega)]
                      refine ⟨ad j, cs j, by simp [List.getD, hj], (ha j hj).1, (ha j hj).2.mono (s.vle hf), (hcc2 j hj).mono (s.vle hf)⟩
                    · rintro v w' ⟨z1, cs', e1, e2⟩
                      rw [hd]
                      exact hn _ _ ⟨ι, _, on z1 hyes ((e2 _).ofU e1), hK⟩
                  | _ => simp_all
                · cases h
              · cases h
            · cases h
          · cases h

theorem wanted_of {ops : Array Oper} {o : Oper} {a : Act} {j j' : Nat} {wt : Bool} (hg : o.guard = some (j', wt)) (hd : dstOf ops.toList j' = some j) : Region.wanted o (yielded ops a.tmps) = true ↔ tmOf a j = .bool wt := by
  have h1 : (ops[j']?).bind (·.dst) = some j := by
    unfold dstOf at hd
    rw [Array.getElem?_toList] at hd
    cases hc : ops[j']? with
    | none => rw [hc] at hd; cases hd
    | some oj => rw [hc] at hd; exact hd
  unfold Region.wanted yielded
  rw [hg]
  simp only [h1, Option.bind_some, beq_iff_eq, tmOf, Array.getD_eq_getD_getElem?]
  cases hc : a.tmps[j]? with
  | none => simp [undef]
  | some v =>
    simp only [Option.getD_some]
    cases v <;> simp

theorem aopsK_sound (ok : CtxOk P C) (zok : ZeroOk P C) (lok : LimOk P C) (hF : ∀ g us r, F g us = some r → Spec P C g us r) (hf : FrOk f) {dr : Bool} {ops : Array Oper} {K : St → Option R} {r : R} {Q : Exit → Act → World → Prop} (hn : ∀ a w, Nx C f K r a w → Q .normal a w) :
    ∀ {l : List Oper} {ι : Own} {st : St} {a : Act} {w : World}, Sim C f ι st a w → aopsK C F dr ops.toList l st K = some r → wpList P ops Q l a w
  | [], ι, st, a, w, s, h => hn _ _ ⟨ι, _, s.drop, h⟩
  | o :: l, ι, st, a, w, s, h => by
    simp only [aopsK] at h
    unfold wpList
    cases hg : o.guard with
    | none =>
      rw [hg] at h
      have hw : Region.wanted o (yielded ops a.tmps) = true := by simp [Region.wanted, hg]
      rw [if_pos hw]
      exact .inl (aoperK_sound ok zok lok hF hf s h (fun a w ⟨ι', st', z, hz⟩ => aopsK_sound ok zok lok hF hf hn z hz))
    | some p =>
      obtain ⟨j', wt⟩ := p
      rw [hg] at h
      simp only at h
      cases hd : dstOf ops.toList j' with
      | none => rw [hd] at h; cases h
      | some j =>
        rw [hd] at h
        simp only at h
        obtain ⟨h1, h2⟩ := aoperG_sound ok zok hF hf s h (fun a w ⟨ι', st', z, hz⟩ => aopsK_sound ok zok lok hF hf hn z hz) (Q := Q) (next := wpList P ops Q l)
        by_cases hw : Region.wanted o (yielded ops a.tmps) = true
        · rw [if_pos hw]
          exact .inl (h1 ((wanted_of hg hd).1 hw))
        · rw [if_neg hw]
          exact h2 (fun e => hw ((wanted_of hg hd).2 e))
end

end Go.Ab
