/- Operations that leave the store alone: all of them, in one law. -/
import Derived.Test.YtnahhhaicalmcaaDoorAbBuild
set_option linter.unusedVariables false
set_option linter.unusedSimpArgs false
namespace Go.Ab
open Go.RowKit
variable {C : Ctx} {P : Program}

theorem run_zeroValue {t : Nat} {i : TypeInfo} {z : Value} (h : P.info? t = some i) (hz : i.zero = some z) (w : World) : (zeroValue t).run P w = .ok z w := by
  simp [zeroValue, run_info h, hz]

theorem build_sound (ok : CtxOk P C) (zok : ZeroOk P C) {H : View} {ι : Own} {sto : Sto} {tm : Nat → Value} {a : Act} {ev : Operand → AV} (hev : ∀ x, RepS C H ι sto tm (ev x) (a.eval x)) (w : World)
    {t : Nat} {fs : List Nat} (ht : C.te t = some (.st fs)) {parts : Array (Nat × Operand)} {us : List U} (hus : flats (parts.toList.map fun p => ev p.2) = some us)
    (hc : (parts.toList.all fun p => decide (p.1 < fs.length) && fitsT C (nthN fs p.1) (ev p.2)) = true) (hz : zeroT C 20 t = true) :
    ∃ q, (Instr.build t (parts.map fun p => (p.1, a.eval p.2))).run P w = .ok q w ∧ RepA C H ι sto (.st t (.ofL false (fillU (fs.map (zeroU C 19)) ((parts.toList.map (·.1)).zip us)))) q := by
  obtain ⟨i, z, hi, hzv, hzr⟩ := zok.zero t hz
  have hzr' := hzr H
  have e20 : zeroU C 20 t = .ofL false (fs.map (zeroU C 19)) := by
    rw [show (20 : Nat) = 19 + 1 from rfl, zeroU, ht]
  rw [e20] at hzr'
  generalize hzl : z.cells.toList = zl at hzr'
  cases hzr' with
  | @st _ fs' _ _ cs h hr hl =>
    rw [ht] at h; cases h
    obtain ⟨f1, f2, f3, _⟩ := ok.fds ht
    obtain ⟨qs, e1, e2, e3⟩ := parts_sound hev (nthN fs) fs.length parts.toList us hus hc
    have hfl : (P.fieldsOf t).size = fs.length := by rw [← f2]; simp
    have hpl := run_places ok ht w (P.fieldsOf t).toList (fun fd hfd => by
      rw [← f2]; exact List.mem_map.2 ⟨fd, hfd, rfl⟩)
    have hrep : ∀ j, j < fs.length → Rep C H (nthN fs j) (cs j) (U.nth (fs.map (zeroU C 19)) j) := fun j hj => by simpa [get_ofL] using hr j hj
    have hplace : ∀ j, j < fs.length → ((P.fieldsOf t).toList.map fun f => (f.offset, C.sz f.type))[j]? = some (offs cs j, (cs j).length) := by
      intro j hj
      have hj' : j < (P.fieldsOf t).size := by omega
      have hg : (P.fieldsOf t)[j]? = some (P.fieldsOf t)[j] := Array.getElem?_eq_getElem hj'
      obtain ⟨ho, _⟩ := f3 j _ hg
      have hty : ((P.fieldsOf t)[j]).type = nthN fs j := by
        rw [nthN_get hj]
        have : fs[j] = ((P.fieldsOf t).toList.map (·.type))[j]'(by simp; omega) := by simp [f2]
        simp [this]
      simp only [List.getElem?_map, Array.getElem?_toList, hg, Option.map_some, hty, ho]
      rw [(hrep j hj).length ok]
      congr 2
      unfold fieldOff offs
      rw [← sum_range_take fs C.sz j (by omega)]
      congr 1
      apply List.map_congr_left
      intro k hk
      simp at hk
      exact ((hrep k (by omega)).length ok).symm
    have hfill := fill_flat ((((P.fieldsOf t).toList.map fun f => (f.offset, C.sz f.type)).toArray)[·]?) fs.length (qs.map fun p => (p.1, p.2.1)) cs z.cells (by rw [hzl, hl])
      (fun j hj => by simpa using hplace j hj) (fun p hp => by
        obtain ⟨q, hq, rfl⟩ := List.mem_map.1 hp
        obtain ⟨h1, h2⟩ := e3 q hq
        refine ⟨h1, ?_⟩
        rw [(hrep q.1 h1).length ok, ← h2.length ok]
        simp)
    obtain ⟨cells', k1, k2⟩ := hfill
    refine ⟨.agg cells', ?_, ?_⟩
    · rw [e1] at k1
      simp only [Instr.build, Sem.run_bind, run_zeroValue hi hzv, Result.andThen_ok, run_und f1, Array.mapM_eq_mapM_toList, Sem.run_map, hpl, Array.toList_map, k1, Sem.run_pure]
    · have hall := fill_rep (H := H) (nthN fs) fs.length qs cs (fs.map (zeroU C 19)) (by simp) hrep e3
      rw [e2] at hall
      refine ⟨cells'.toList, fs, ht, by simp, ?_⟩
      exact .st _ ht (fun j hj => hall j hj) k2
  | _ => simp_all

theorem slice_of {H : View} {ι : Own} {st : St} {w : World} (hb : ∀ id, BlkOk C H ι st.sto w id) (hH : H.le (World.view w)) {id e : Nat} {z : Bool} {xs : List U} (hs : st.sto id = some (.arr e z xs)) {r : Option (Nat × Nat)} {v : Value}
    (h : RepOw C ι st.sto id r v) : (prt xs r).length = (owU z xs r).len := rfl

theorem cond_some {α : Type} {b : Bool} {x : Option α} {y : α} (h : (bif b then x else none) = some y) : b = true ∧ x = some y := by
  cases b <;> simp_all


section
variable {H : View} {ι : Own} {st : St} {w : World} {a : Act} {ev : Operand → AV}
theorem ev_not_cv {tm : Nat → Value} {x : AV} {v : Value} (h : RepS C H ι st.sto tm x v) (hn : isCv x = false) : RepA C H ι st.sto x v := by rwa [RepS.eq hn] at h

theorem fieldAddr_sound (ok : CtxOk P C) (hev : ∀ x, RepS C H ι st.sto (tmOf a) (ev x) (a.eval x)) {t : Nat} {x : Operand} {j : Nat} {v : AV} (h : apure C st ev (.fieldAddr t x j) = some (true, v)) :
    ∃ q, (Instr.fieldAt t (a.eval x) j).run P w = .ok q w ∧ RepA C H ι st.sto v q := by
  simp only [apure] at h
  have hx := hev x
  split at h
  · rename_i fs t' u ht he
    obtain ⟨hc, h⟩ := cond_some h
    cases h
    simp only [nbeq, Bool.and_eq_true, decide_eq_true_eq] at hc
    obtain ⟨rfl, hj⟩ := hc
    rw [he] at hx
    obtain ⟨ad, cs, h1, h2, h3, h4⟩ := hx
    rw [h1]
    obtain ⟨cs', k1, k2⟩ := h4.field ok ht hj
    refine ⟨_, run_fieldAt ok ht hj ad w, ad.add (fieldOff C fs j), cs', rfl, spot_add ad h2 _, h3.sub h2 k2, k1⟩
  · rename_i fs id p ht he
    split at h
    · rename_i t' vs hs
      obtain ⟨hc, h⟩ := cond_some h
      cases h
      simp only [nbeq, Bool.and_eq_true, decide_eq_true_eq] at hc
      obtain ⟨rfl, hj⟩ := hc
      rw [he] at hx
      have r : RepPb C ι st.sto id p (a.eval x) := hx
      unfold RepPb at r
      rw [hs] at r
      obtain ⟨r1, g, r2, r3⟩ := r
      rw [r3]
      refine ⟨_, run_fieldAt ok ht hj _ w, ?_⟩
      show RepPb C ι st.sto id (p ++ [j]) _
      unfold RepPb
      rw [hs]
      exact ⟨r1.append ⟨fs, ht, hj⟩, g, r2, by rw [add_eq, poff_append _ _ _ _ ht]⟩
    · cases h
  · rename_i fs id i p ht he
    split at h
    · rename_i e z xs hs
      obtain ⟨hc, h⟩ := cond_some h
      cases h
      simp only [nbeq, Bool.and_eq_true, decide_eq_true_eq] at hc
      obtain ⟨rfl, hj⟩ := hc
      rw [he] at hx
      have r : RepPe C ι st.sto id i p (a.eval x) := hx
      unfold RepPe at r
      rw [hs] at r
      obtain ⟨r1, r2, g, cap, r3, r4⟩ := r
      rw [r4]
      refine ⟨_, run_fieldAt ok ht hj _ w, ?_⟩
      show RepPe C ι st.sto id i (p ++ [j]) _
      unfold RepPe
      rw [hs]
      exact ⟨r1.append ⟨fs, ht, hj⟩, r2, g, cap, r3, by rw [add_eq, poff_append _ _ _ _ ht, Nat.add_assoc]⟩
    · cases h
  · cases h

theorem field_sound (ok : CtxOk P C) (hev : ∀ x, RepS C H ι st.sto (tmOf a) (ev x) (a.eval x)) {t : Nat} {x : Operand} {j : Nat} {v : AV} (h : apure C st ev (.field t x j) = some (true, v)) :
    ∃ q, (Instr.field t (a.eval x) j).run P w = .ok q w ∧ RepA C H ι st.sto v q := by
  simp only [apure] at h
  have hx := hev x
  split at h
  · rename_i fs t' u ht he
    obtain ⟨hc, h⟩ := cond_some h
    cases h
    simp only [nbeq, Bool.and_eq_true, decide_eq_true_eq] at hc
    obtain ⟨rfl, hj⟩ := hc
    rw [he] at hx
    obtain ⟨cs, fs', h1, h2, h3⟩ := hx
    rw [h2]
    obtain ⟨cs', k1, k2⟩ := h3.field ok ht hj
    obtain ⟨f1, f2, f3, _⟩ := ok.fds ht
    have hj' : j < (P.fieldsOf t).size := by have : (P.fieldsOf t).size = fs.length := by rw [← f2]; simp
                                             omega
    have hg : (P.fieldsOf t)[j]? = some (P.fieldsOf t)[j] := Array.getElem?_eq_getElem hj'
    obtain ⟨ho, _⟩ := f3 j _ hg
    have hty : ((P.fieldsOf t)[j]).type = nthN fs j := by
      rw [nthN_get hj]
      have : fs[j] = ((P.fieldsOf t).toList.map (·.type))[j]'(by simp; omega) := by simp [f2]
      simp [this]
    obtain ⟨ty, e1, e2⟩ := ok.fields t fs (nthN fs j) ht (nthN_mem hj)
    obtain ⟨q, hq⟩ := k1.isVal
    refine ⟨q, ?_, k1.ofU hq⟩
    simp only [Instr.field, Sem.run_bind, run_und f1, Result.andThen_ok, hg, asAgg, Sem.run_pure, hty, ho]
    exact run_part ok (isPtr_of e1 e2) hq (k1.length ok) k2 w
  · cases h

theorem indexAddr_sound (ok : CtxOk P C) (hb : ∀ id, BlkOk C H ι st.sto w id) (hev : ∀ x, RepS C H ι st.sto (tmOf a) (ev x) (a.eval x)) {t : Nat} {x i : Operand} {v : AV} (h : apure C st ev (.indexAddr t x i) = some (true, v)) :
    ∃ q, (Instr.indexAt t (a.eval x) (a.eval i)).run P w = .ok q w ∧ RepA C H ι st.sto v q := by
  simp only [apure] at h
  have hx := hev x
  have hi := hev i
  split at h
  · rename_i e u k n e' he hi' ht
    obtain ⟨hc, h⟩ := cond_some h
    simp only [Option.some.injEq, Prod.mk.injEq, Bool.and_eq_true, decide_eq_true_eq] at h
    obtain ⟨⟨h0, h1⟩, rfl⟩ := h
    simp only [nbeq, decide_eq_true_eq] at hc
    subst hc
    rw [he] at hx; rw [hi'] at hi
    have hi : a.eval i = .int k n := hi
    have hx : RepSl C H e u (a.eval x) := hx
    have hlt : n.toNat < u.len := by omega
    obtain ⟨ad, cap, cs, k1, k2, k3⟩ := hx.at hlt
    rw [k1, hi]
    refine ⟨_, run_indexAt ok (elt_some ht) h0 h1 w, ad.add (n.toNat * C.sz e), cs, rfl, ?_, k2, k3⟩
    apply k2.1
    intro ec
    have hl := k3.length ok
    obtain ⟨ty, hte⟩ := k3.te
    have := ok.szpos hte
    rw [ec] at hl; simp at hl; omega
  · rename_i id r k n e' he hi' ht
    split at h
    · rename_i e z xs hs
      obtain ⟨hc, h⟩ := cond_some h
      simp only [Option.some.injEq, Prod.mk.injEq, Bool.and_eq_true, decide_eq_true_eq] at h
      obtain ⟨⟨h0, h1⟩, rfl⟩ := h
      simp only [nbeq, decide_eq_true_eq] at hc
      subst hc
      rw [he] at hx; rw [hi'] at hi
      have hi : a.eval i = .int k n := hi
      have rr : RepOw C ι st.sto id r (a.eval x) := hx
      unfold RepOw at rr
      rw [hs] at rr
      obtain ⟨cs, k1, k2, k3, k4⟩ := (hb id).arr hs
      cases r with
      | none =>
        simp only at rr
        simp only [prt] at h1
        rcases own_slice k1 with ⟨e1, e2⟩ | ⟨g, cap, e1⟩
        · omega
        · rw [rr, e1, hi]
          refine ⟨_, run_indexAt ok (elt_some ht) h0 h1 w, ?_⟩
          show RepPe C ι st.sto id (0 + n.toNat) [] _
          unfold RepPe
          rw [hs]
          exact ⟨trivial, by omega, g, cap, e1, by rw [add_eq]; simp [poff]⟩
      | some p =>
        obtain ⟨o, m⟩ := p
        simp only [prt, List.length_take, List.length_drop] at h1
        obtain ⟨hle, rr⟩ := rr
        rcases rr with ⟨e1, e2, e3⟩ | ⟨g, cap, ad, e1, e2, e3, e4, e5⟩
        · omega
        · rw [e2, hi]
          have hn : n < m := by omega
          refine ⟨_, run_indexAt ok (elt_some ht) h0 hn w, ?_⟩
          show RepPe C ι st.sto id (o + n.toNat) [] _
          unfold RepPe
          rw [hs]
          refine ⟨trivial, by omega, g, cap, e1, ?_⟩
          rcases e5 with e5 | e5
          · obtain ⟨b, of, sp⟩ := ad
            simp at e3 e4 e5
            subst e3; subst e4; subst e5
            rw [add_eq]
            simp [poff, Nat.add_mul]
          · omega
    · cases h
  · cases h

theorem index_sound (ok : CtxOk P C) (hev : ∀ x, RepS C H ι st.sto (tmOf a) (ev x) (a.eval x)) {t : Nat} {x i : Operand} {v : AV} (h : apure C st ev (.index t x i) = some (true, v)) :
    ∃ q, (Instr.index t (a.eval x) (a.eval i)).run P w = .ok q w ∧ RepA C H ι st.sto v q := by
  simp only [apure] at h
  have hx := hev x
  have hi := hev i
  split at h
  · rename_i s k n ht he hi'
    simp only [Option.some.injEq, Prod.mk.injEq, Bool.and_eq_true, decide_eq_true_eq] at h
    obtain ⟨⟨h0, h1⟩, rfl⟩ := h
    rw [he] at hx; rw [hi'] at hi
    have hi : a.eval i = .int k n := hi
    have hx : a.eval x = .string (str s) := hx
    have hu := ok.und t _ ht
    simp only at hu
    have hlt : n.toNat < s.length := by omega
    refine ⟨.int .u8 (s.getD n.toNat 0).toNat, ?_, rfl⟩
    rw [hx, hi]
    have hb : (str s)[n.toNat]? = some (s.getD n.toNat 0) := by
      rw [List.getD, List.getElem?_eq_getElem hlt]
      simp only [Option.getD_some]
      have : n.toNat < (str s).size := by rw [size_str]; exact hlt
      rw [getElem?_pos (str s) n.toNat this]
      congr 1
    simp [Instr.index, asIntOf, run_und hu, h0, hb]
  · cases h
end


theorem extract_str (s : List UInt8) (l h : Nat) : (str s).extract l h = str ((s.take h).drop l) := by
  apply ByteArray.ext
  simp [str, ByteArray.data_extract, List.extract_toArray, List.extract_eq_take_drop, List.drop_take]
section
variable {H : View} {ι : Own} {st : St} {w : World} {a : Act} {ev : Operand → AV}
theorem slice_sound (ok : CtxOk P C) (hb : ∀ id, BlkOk C H ι st.sto w id) (hev : ∀ x, RepS C H ι st.sto (tmOf a) (ev x) (a.eval x)) {t : Nat} {x : Operand} {lo hi mx : Option Operand} {v : AV} (h : apure C st ev (.slice t x lo hi mx) = some (true, v)) :
    ∃ q, (Instr.sliceAt t (a.eval x) (lo.map a.eval) (hi.map a.eval) (mx.map a.eval)).run P w = .ok q w ∧ RepA C H ι st.sto v q := by
  have hx := hev x
  cases mx with
  | some m => simp [apure] at h
  | none =>
  simp only [apure] at h
  split at h
  · rename_i s l hh ht he hl hhi
    simp only [aslice, Option.some.injEq, Prod.mk.injEq, Bool.and_eq_true, decide_eq_true_eq] at h
    obtain ⟨⟨⟨h0, h1⟩, h2⟩, rfl⟩ := h
    rw [he] at hx
    have hx : a.eval x = .string (str s) := hx
    have hu := ok.und t _ ht
    simp only at hu
    have hbd := run_bounds (P := P) (isS := false) (cap := s.length) (optI_some hev hl) (optI_some hev hhi) (Nat.le_refl _) h0 h1 h2 w
    refine ⟨.string ((str s).extract (l.getD 0).toNat (hh.getD s.length).toNat), ?_, by rw [extract_str]; rfl⟩
    simp [Instr.sliceAt, run_und hu, Instr.slice, hx, size_str, hbd]
  · rename_i e' e u l hh ht he hl hhi
    obtain ⟨hc, h⟩ := cond_some h
    simp only [aslice, Option.some.injEq, Prod.mk.injEq, Bool.and_eq_true, decide_eq_true_eq] at h
    obtain ⟨⟨⟨h0, h1⟩, h2⟩, rfl⟩ := h
    simp only [nbeq, decide_eq_true_eq] at hc
    subst hc
    rw [he] at hx
    have hx : RepSl C H e u (a.eval x) := hx
    have hu := ok.und t _ ht
    simp only at hu
    obtain ⟨ty, hty, hnp⟩ := ok.elem t e ht
    obtain ⟨ad, cap, k1, k2, k3⟩ := hx.sub ok (lo := (l.getD 0).toNat) (hi := (hh.getD u.len).toNat) (by omega) (by omega)
    have hbd := run_bounds (P := P) (isS := true) (cap := cap) (optI_some hev hl) (optI_some hev hhi) k2 h0 h1 h2 w
    refine ⟨_, ?_, k3⟩
    simp [Instr.sliceAt, run_und hu, Instr.slice, k1, hbd, ok.sizeOf hty hnp]
  · rename_i e' l hh ht he hl hhi
    simp only [aslice, Option.some.injEq, Prod.mk.injEq, Bool.and_eq_true, decide_eq_true_eq] at h
    obtain ⟨⟨⟨h0, h1⟩, h2⟩, rfl⟩ := h
    rw [he] at hx
    have hx : a.eval x = .slice none 0 0 := hx
    have hu := ok.und t _ ht
    simp only at hu
    obtain ⟨ty, hty, hnp⟩ := ok.elem t e' ht
    have hbd := run_bounds (P := P) (isS := true) (len := 0) (cap := 0) (optI_some hev hl) (optI_some hev hhi) (Nat.le_refl _) h0 h1 h2 w
    have e1 : (l.getD 0).toNat = 0 := by omega
    have e2 : (hh.getD (0 : Nat)).toNat = 0 := by omega
    rw [e1, e2] at hbd
    refine ⟨.slice none 0 0, ?_, rfl⟩
    simp [Instr.sliceAt, run_und hu, Instr.slice, hx, hbd, ok.sizeOf hty hnp]
  · rename_i e' id r l hh ht he hl hhi
    split at h
    · rename_i e z xs hs
      obtain ⟨hc, h⟩ := cond_some h
      simp only [aslice, Option.some.injEq, Prod.mk.injEq, Bool.and_eq_true, decide_eq_true_eq] at h
      obtain ⟨⟨⟨h0, h1⟩, h2⟩, rfl⟩ := h
      simp only [nbeq, decide_eq_true_eq] at hc
      subst hc
      rw [he] at hx
      have rr : RepOw C ι st.sto id r (a.eval x) := hx
      unfold RepOw at rr
      rw [hs] at rr
      have hu := ok.und t _ ht
      simp only at hu
      obtain ⟨ty, hty, hnp⟩ := ok.elem t e ht
      obtain ⟨cs, k1, k2, k3, k4⟩ := (hb id).arr hs
      have hcap : ∀ {g cap : Nat}, ι id = .slice (some ⟨g, 0, none⟩) xs.length cap → xs.length ≤ cap := by
        intro g cap hi
        rcases k1.2 with ⟨h1, _⟩ | ⟨g', cap', cur, h1, _, _, h2, _⟩
        · rw [hi] at h1; cases h1
        · rw [hi] at h1; cases h1; exact h2
      -- the value as a slice: base, length, capacity
      have hval : ∃ (o n : Nat), offOf r = o ∧ (prt xs r).length = n ∧ o + n ≤ xs.length ∧
          ((ι id = .slice none 0 0 ∧ a.eval x = .slice none 0 0 ∧ n = 0) ∨ ∃ g cap ad, ι id = .slice (some ⟨g, 0, none⟩) xs.length cap ∧ a.eval x = .slice (some ad) n (cap - o) ∧ ad.block = g ∧ ad.spot = none ∧ (ad.off = o * C.sz e ∨ n = 0) ∧ o + n ≤ cap ∧ (o = 0 → ad.off = 0)) := by
        cases r with
        | none =>
          simp only at rr
          refine ⟨0, xs.length, rfl, rfl, by omega, ?_⟩
          rcases own_slice k1 with ⟨e1, e2⟩ | ⟨g, cap, e1⟩
          · exact .inl ⟨e1, by rw [rr, e1], e2⟩
          · exact .inr ⟨g, cap, ⟨g, 0, none⟩, e1, by rw [rr, e1]; simp, rfl, rfl, .inl (by simp), by have := hcap e1; omega, fun _ => rfl⟩
        | some p =>
          obtain ⟨o, m⟩ := p
          obtain ⟨hle, rr⟩ := rr
          refine ⟨o, m, rfl, by simp [prt]; omega, hle, ?_⟩
          rcases rr with ⟨e1, e2, e3⟩ | ⟨g, cap, ad, e1, e2, e3, e4, e5, e7⟩
          · exact .inl ⟨e1, e2, e3⟩
          · exact .inr ⟨g, cap, ad, e1, e2, e3, e4, e5, by have := hcap e1; omega, e7⟩
      obtain ⟨o, n, ho, hn, hon, hval⟩ := hval
      rw [hn] at h1 h2
      simp only [ho, hn]
      rcases hval with ⟨e1, e2, e3⟩ | ⟨g, cap, ad, e1, e2, e3, e4, e5, e6, e7⟩
      · subst e3
        have hbd := run_bounds (P := P) (isS := true) (len := 0) (cap := 0) (optI_some hev hl) (optI_some hev hhi) (Nat.le_refl _) h0 h1 h2 w
        have q1 : (l.getD 0).toNat = 0 := by omega
        have q2 : (hh.getD (0 : Nat)).toNat = 0 := by omega
        rw [q1, q2] at hbd
        refine ⟨.slice none 0 0, ?_, ?_⟩
        · simp [Instr.sliceAt, run_und hu, Instr.slice, e2, hbd, ok.sizeOf hty hnp]
        · simp only [RepA, RepOw, hs, q1, q2]
          exact ⟨by omega, .inl ⟨e1, trivial, trivial⟩⟩
      · have hbd := run_bounds (P := P) (isS := true) (len := n) (cap := cap - o) (optI_some hev hl) (optI_some hev hhi) (by omega) h0 h1 h2 w
        refine ⟨.slice (some (if cap - o = (l.getD 0).toNat then ad else ad.add ((l.getD 0).toNat * C.sz e))) ((hh.getD n).toNat - (l.getD 0).toNat) (cap - o - (l.getD 0).toNat), ?_, ?_⟩
        · simp only [Instr.sliceAt, Sem.run_bind, run_und hu, Result.andThen_ok, Instr.slice, e2, hbd, ok.sizeOf hty hnp, Sem.run_pure, Option.map_none]
          congr 2
          split <;> rfl
        · simp only [RepA, RepOw, hs]
          refine ⟨by omega, .inr ⟨g, cap, if cap - o = (l.getD 0).toNat then ad else ad.add ((l.getD 0).toNat * C.sz e), e1, ?_, ?_, ?_, ?_⟩⟩
          · rw [show cap - o - (l.getD 0).toNat = cap - (o + (l.getD 0).toNat) by omega]
          · split
            · exact e3
            · unfold Addr.add; split <;> simp [e3]
          · split
            · exact e4
            · exact spot_add ad e4 _
          · refine ⟨?_, ?_⟩
            · split
              · exact .inr (by omega)
              · rcases e5 with e5 | e5
                · left
                  obtain ⟨b, of, sp⟩ := ad
                  simp at e4 e5
                  subst e4; subst e5
                  rw [add_eq, Nat.add_mul]
                · exact .inr (by omega)
            · intro h00
              have a0 : o = 0 := by omega
              have a1 : (l.getD 0).toNat = 0 := by omega
              split
              · exact e7 a0
              · obtain ⟨b, of, sp⟩ := ad
                simp at e4
                subst e4
                rw [a1, add_eq]
                have := e7 a0
                simpa using this
    · cases h
  · cases h
end


section
variable {H : View} {ι : Own} {st : St} {w : World} {a : Act} {ev : Operand → AV}
def slOk (st : St) (e : Nat) : AV → Prop
  | .sl e' _ => e' = e | .nl => True | .ow id _ => ∃ z xs, st.sto id = some (.arr e z xs) | _ => False
theorem toU_sl (hb : ∀ id, BlkOk C H ι st.sto w id) (hH : H.le (World.view w)) {x : AV} {v : Value} {u : U} {e : Nat} (hx : RepA C H ι st.sto x v)
    (hk : slOk st e x) (h : x.toU st = some u) : RepSl C (World.view w) e u v := by
  cases x with
  | sl e' u' =>
    simp only [slOk] at hk
    simp [AV.toU, AV.flat] at h
    subst hk; subst h
    exact RepSl.mono hH hx
  | nl =>
    simp [AV.toU, AV.flat] at h
    subst h
    exact .inl ⟨rfl, rfl, hx⟩
  | ow id r =>
    obtain ⟨z, xs, hs⟩ := hk
    simp [AV.toU, hs] at h
    subst h
    exact ow_repSl hH (hb id) hs hx
  | _ => exact hk.elim
theorem fits_sl {t e : Nat} (ht : C.te t = some (.sl e)) {x : AV} (h : fitsArg C st t x = true) :
    (slOk st e x) ∧ isCv x = false := by
  cases x with
  | sl e' u => simp [fitsArg, ht, fitsT, nbeq] at h; simp [isCv, h, slOk]
  | nl => simp [isCv, slOk]
  | ow id r =>
    simp only [fitsArg, ht, eltOf] at h
    cases hs : st.sto id with
    | none => simp [hs] at h
    | some b => cases b with
      | arr e' z xs => simp [hs, nbeq] at h; subst h; simp [isCv, hs, slOk]
      | _ => simp [hs] at h
  | _ => simp [fitsArg, ht, fitsT] at h
theorem convert_sound (ok : CtxOk P C) (hb : ∀ id, BlkOk C H ι st.sto w id) (hH : H.le (World.view w)) (hev : ∀ x, RepS C H ι st.sto (tmOf a) (ev x) (a.eval x)) {t1 t2 : Nat} {x : Operand} {v : AV} (h : apure C st ev (.convert t1 t2 x) = some (true, v)) :
    ∃ q, (convert t1 t2 (a.eval x)).run P w = .ok q w ∧ RepA C H ι st.sto v q := by
  simp only [apure] at h
  have hx := hev x
  split at h
  · rename_i k1 k k' n ht1 ht he
    simp only [Option.some.injEq, Prod.mk.injEq, true_and] at h; subst h
    rw [he] at hx
    have hx : a.eval x = .int k' n := hx
    have hu := ok.und t2 _ ht
    have hu1 := ok.und t1 _ ht1
    simp only at hu hu1
    exact ⟨.int k (k.wrap n), by simp [convert, hx, run_und hu, run_und hu1, Conv.intToInt], rfl⟩
  · rename_i s ht1 ht he
    simp only [Option.some.injEq, Prod.mk.injEq, true_and] at h; subst h
    rw [he] at hx
    have hx : a.eval x = .string (str s) := hx
    have hu := ok.und t2 _ ht
    have hu1 := ok.und t1 _ ht1
    simp only at hu hu1
    exact ⟨.string (str s), by simp [convert, hx, run_und hu, run_und hu1], rfl⟩
  · rename_i e ht1 ht2
    split at h
    · rename_i u hte hu
      obtain ⟨hc, h⟩ := cond_some h
      simp only [Option.some.injEq, Prod.mk.injEq, true_and] at h; subst h
      refine ⟨_, run_bytes ok ht1 hte ht2 (fun _ _ _ h => h) ?_, rfl⟩
      obtain ⟨hk, hcv⟩ := fits_sl ht1 hc
      exact toU_sl hb hH (ev_not_cv hx hcv) hk hu
    · cases h
  · cases h
theorem extract_sound (hev : ∀ x, RepS C H ι st.sto (tmOf a) (ev x) (a.eval x)) {x : Operand} {j : Nat} {v : AV} (h : apure C st ev (.extract x j) = some (true, v)) :
    ∃ q, (Instr.extract (a.eval x) j).run P w = .ok q w ∧ RepA C H ι st.sto v q := by
  simp only [apure] at h
  have hx := hev x
  split at h
  · rename_i ts u he
    rw [he] at hx
    obtain ⟨vs, h1, h2⟩ := hx
    rw [h1]
    split at h
    · rename_i t hj
      cases h
      obtain ⟨v', k1, cs, k2, k3⟩ := h2.get hj
      refine ⟨v', by simp [Instr.extract, k1], ?_⟩
      rw [Nat.zero_add] at k3
      exact k3.ofU k2
    · rename_i t id hj
      cases h
      obtain ⟨v', k1, k2⟩ := h2.get hj
      exact ⟨v', by simp [Instr.extract, k1], k2⟩
    · cases h
  · cases h
theorem makeFunc_sound (hev : ∀ x, RepS C H ι st.sto (tmOf a) (ev x) (a.eval x)) {fn : Go.Fn} {first caps : Array Operand} {v : AV} (h : apure C st ev (.makeFunc fn first caps) = some (true, v)) :
    ∃ q, (Instr.makeFunc fn (first.map a.eval) (caps.map a.eval)).run P w = .ok q w ∧ RepA C H ι st.sto v q := by
  cases fn with
  | func f =>
    simp only [apure] at h
    split at h
    · rename_i cs fi hf hcs hfi
      split at h
      · rename_i ts hts
        obtain ⟨hc, h⟩ := cond_some h
        cases h
        have hfe : first = #[] := by
          apply Array.ext'
          simpa using hf
        subst hfe
        refine ⟨.func (.func f) #[] (caps.map a.eval), by simp [Instr.makeFunc], (caps.toList.map a.eval), ?_, capsOf_sound hcs (map_rep hev _)⟩
        rw [← Array.toList_map]
      · cases h
    · cases h
  | _ => simp [apure] at h
theorem args2 {ev : Operand → AV} {as : Array Operand} {x y : AV} (h : as.toList.map ev = [x, y]) : ∃ o1 o2, as = #[o1, o2] ∧ ev o1 = x ∧ ev o2 = y := by
  cases hca : as.toList with
  | nil => rw [hca] at h; simp at h
  | cons o os =>
    cases os with
    | nil => rw [hca] at h; simp at h
    | cons o' os =>
      rw [hca] at h
      simp at h
      refine ⟨o, o', ?_, h.1, h.2.1⟩
      apply Array.ext'
      rw [hca, h.2.2]
theorem len_sound (ok : CtxOk P C) (hb : ∀ id, BlkOk C H ι st.sto w id) (hev : ∀ x, RepS C H ι st.sto (tmOf a) (ev x) (a.eval x)) {c : Call} {v : AV} (h : apure C st ev (.call c) = some (true, v)) (ty : TypeId) :
    ∃ q, (do let d ← resolve a.eval c ty; invoke d.target d.args : Sem Next).run P w = .ok (.value q) w ∧ RepA C H ι st.sto v q := by
  simp only [apure] at h
  split at h
  · rename_i x hc hx
    obtain ⟨hl, h⟩ := cond_some h
    simp only [Option.map_eq_some_iff, Prod.mk.injEq, true_and] at h
    obtain ⟨n, hn, rfl⟩ := h
    have hargs : ∃ o, c.args = #[o] ∧ ev o = x := by
      cases hca : c.args.toList with
      | nil => rw [hca] at hx; simp at hx
      | cons o os =>
        rw [hca] at hx
        simp at hx
        refine ⟨o, ?_, hx.1⟩
        apply Array.ext'
        rw [hca, hx.2]
    obtain ⟨o, ho, rfl⟩ := hargs
    have hr : RepA C H ι st.sto (ev o) (a.eval o) := by
      have := hev o
      cases hcv : isCv (ev o) with
      | false => rwa [RepS.eq hcv] at this
      | true => revert hn hcv; cases ev o <;> simp [isCv, slen]
    have hs := slen_sound hb hn hr
    cases hts : c.argTypes.toList with
    | nil => rw [hts] at hl; simp [lenT] at hl
    | cons t ts =>
      cases ts with
      | cons t' ts => rw [hts] at hl; simp [lenT] at hl
      | nil =>
        have hat : c.argTypes[0]? = some t := by rw [← Array.getElem?_toList, hts]; rfl
        rw [hts] at hl
        simp only [lenT] at hl
        cases hte : C.te t with
        | none => simp [hte] at hl
        | some ty' =>
          have hu := ok.und t ty' hte
          refine ⟨.int .i64 n, ?_, rfl⟩
          rw [hte] at hl
          have key : ∀ V, a.eval o = V → (∃ s, V = .string s ∧ s.size = n ∧ ty' = .str) ∨ (∃ ad cap e, V = .slice ad n cap ∧ ty' = .sl e) →
              (do let d ← resolve a.eval c ty; invoke d.target d.args : Sem Next).run P w = .ok (.value (.int .i64 n)) w := by
            intro V hV hk
            rcases hk with ⟨s, rfl, e2, rfl⟩ | ⟨ad, cap, e, rfl, rfl⟩
            · simp only at hu
              simp [resolve, hc, invoke, builtin, ho, Builtin.len_, hat, hV, run_und hu, goInt, e2]
            · simp only at hu
              simp [resolve, hc, invoke, builtin, ho, Builtin.len_, hat, hV, run_und hu, goInt]
          apply key _ rfl
          cases hev' : ev o with
          | s b =>
            rw [hev'] at hr hn hl
            cases ty' with
            | str =>
              simp [slen] at hn; subst hn
              exact .inl ⟨_, hr, size_str _, rfl⟩
            | _ => simp at hl
          | sl e' u =>
            rw [hev'] at hr hn hl
            cases ty' with
            | sl e =>
              rcases hs with ⟨s, e1, e2⟩ | ⟨ad, cap, e1⟩
              · rcases hr with ⟨_, _, h⟩ | ⟨_, _, _, h, _⟩ <;> rw [e1] at h <;> cases h
              · exact .inr ⟨ad, cap, e, e1, rfl⟩
            | _ => simp at hl
          | nl =>
            rw [hev'] at hr hn hl
            cases ty' with
            | sl e =>
              simp [slen] at hn; subst hn
              exact .inr ⟨none, 0, e, hr, rfl⟩
            | _ => simp at hl
          | ow id r =>
            rw [hev'] at hr hn hl
            cases ty' with
            | sl e =>
              rcases hs with ⟨s, e1, e2⟩ | ⟨ad, cap, e1⟩
              · exfalso
                have hr : RepOw C ι st.sto id r (a.eval o) := hr
                cases hso : st.sto id with
                | none => cases r <;> simp [slen, hso] at hn
                | some b =>
                  cases b with
                  | arr e' z xs =>
                    obtain ⟨cs, k1, k2, k3, k4⟩ := (hb id).arr hso
                    unfold RepOw at hr
                    rw [hso] at hr
                    cases r with
                    | none =>
                      simp only at hr
                      rcases own_slice k1 with ⟨h1, h2⟩ | ⟨g, cap, h1⟩ <;> rw [e1, h1] at hr <;> cases hr
                    | some p =>
                      obtain ⟨_, h⟩ := hr
                      rcases h with ⟨_, h, _⟩ | ⟨_, _, _, _, h, _⟩ <;> rw [e1] at h <;> cases h
                  | _ => cases r <;> simp [slen, hso] at hn
              · exact .inr ⟨ad, cap, e, e1, rfl⟩
            | _ => simp at hl
          | _ => rw [hev'] at hn; simp [slen] at hn
  · rename_i k x k' y hc hx
    simp only [Option.some.injEq, Prod.mk.injEq, true_and] at h
    subst h
    obtain ⟨o1, o2, ho, e1, e2⟩ := args2 hx
    have h1 : a.eval o1 = .int k x := by have := hev o1; rw [e1] at this; exact this
    have h2 : a.eval o2 = .int k' y := by have := hev o2; rw [e2] at this; exact this
    refine ⟨.int k (bif decide (x < y) then y else x), ?_, rfl⟩
    have hb : (if y > x then y else x) = (bif decide (x < y) then y else x) := by
      by_cases hxy : x < y
      · simp [hxy]
      · simp [hxy]
    simp [resolve, hc, invoke, builtin, ho, h1, h2, run_max_int2, hb]
  · rename_i k x k' y hc hx
    simp only [Option.some.injEq, Prod.mk.injEq, true_and] at h
    subst h
    obtain ⟨o1, o2, ho, e1, e2⟩ := args2 hx
    have h1 : a.eval o1 = .int k x := by have := hev o1; rw [e1] at this; exact this
    have h2 : a.eval o2 = .int k' y := by have := hev o2; rw [e2] at this; exact this
    refine ⟨.int k (bif decide (y < x) then y else x), ?_, rfl⟩
    have hb : (if y < x then y else x) = (bif decide (y < x) then y else x) := by
      by_cases hxy : y < x
      · simp [hxy]
      · simp [hxy]
    simp [resolve, hc, invoke, builtin, ho, h1, h2, run_min_int2, hb]
  · cases h
end


theorem str_beq (a b : List UInt8) : (str a == str b) = decide (a = b) := by
  show ((str a).data == (str b).data) = _
  by_cases h : a = b
  · subst h; simp
  · have : ¬ (str a).data = (str b).data := fun e => h (by
      have := congrArg Array.toList e
      simpa [str] using this)
    simp [h, this]
/-- a key is looked for -/
theorem findNow_rep {H : View} {vt : Nat} {x : List UInt8} : ∀ {us : List U} {es : List MapEntry} (i : Nat), RepM C H vt us es →
    (mapHas us x = false ∧ Instr.findNow .string (.string (str x)) es i = some none ∧ (∀ z, mapGet us x z = z) ∧ ∀ v, mapSet us x v = us ++ [.ofL false [.S x, v]]) ∨
    (mapHas us x = true ∧ ∃ j e, es[j]? = some e ∧ Instr.findNow .string (.string (str x)) es i = some (some (i + j, e.val)) ∧ e.key = .string (str x) ∧ (∀ z, ∃ cs, IsVal C vt e.val cs ∧ Rep C H vt cs (mapGet us x z)) ∧
      ∀ v y, (∃ cs, IsVal C vt y cs ∧ Rep C H vt cs v) → RepM C H vt (mapSet us x v) (es.modify j fun e => { e with key := .string (str x), val := y }))
  | [], [], i, _ => .inl ⟨rfl, rfl, fun _ => rfl, fun _ => rfl⟩
  | u :: us, e :: es, i, ⟨h1, h2, h3⟩ => by
    have hs : Instr.sameNow .string (.string (str x)) e.key = some (decide ((u.get 0).toS = x)) := by
      rw [h1]
      show some (str x == str (u.get 0).toS) = _
      rw [str_beq]
      congr 1
      by_cases hx : x = (u.get 0).toS
      · simp [hx]
      · have : ¬ (u.get 0).toS = x := fun e => hx e.symm
        simp [hx, this]
    by_cases hx : (u.get 0).toS = x
    · refine .inr ⟨by simp [mapHas, hx], 0, e, rfl, ?_, by rw [h1, hx], fun z => ?_, fun v y hy => ?_⟩
      · unfold Instr.findNow
        rw [hs]
        simp [hx]
      · simp only [mapGet, hx, decide_true, cond_true]; exact h2
      · simp only [mapSet, hx, decide_true, cond_true, List.modify_zero_cons]
        exact ⟨by simp [U.ofL, U.get, U.nth, U.toS], by simpa [U.ofL, U.get, U.nth] using hy, h3⟩
    · have hf : Instr.findNow .string (.string (str x)) (e :: es) i = Instr.findNow .string (.string (str x)) es (i + 1) := by
        conv => lhs; unfold Instr.findNow
        rw [hs]
        simp [hx]
      rcases findNow_rep (x := x) (i + 1) h3 with ⟨k1, k2, k3, k4⟩ | ⟨k1, j, e', k2, k3, k4, k5, k6⟩
      · refine .inl ⟨by simp [mapHas, hx, k1], by rw [hf, k2], fun z => by simp [mapGet, hx, k3], fun v => by simp [mapSet, hx, k4]⟩
      · refine .inr ⟨by simp [mapHas, hx, k1], j + 1, e', by simpa using k2, by rw [hf, k3]; congr 3; omega, k4, fun z => by simpa [mapGet, hx] using k5 z, fun v y hy => ?_⟩
        simp only [mapSet, hx, decide_false, cond_false, List.modify_succ_cons]
        exact ⟨h1, h2, k6 v y hy⟩
  | [], _ :: _, _, h => h.elim
  | _ :: _, [], _, h => h.elim
theorem run_findKey {t : TypeId} (ht : P.underlying t = some .string) {x : List UInt8} {es : List MapEntry} {r : Option (Nat × Value)} (h : Instr.findNow .string (.string (str x)) es 0 = some r) (w : World) :
    (Instr.findKey t (.string (str x)) es).run P w = .ok r w := by
  simp [Instr.findKey, run_und ht, h]
theorem run_checkKey {t : TypeId} (ht : P.underlying t = some .string) (b : Bool) (n : Nat) (x : List UInt8) (w : World) : (Instr.checkKey b (n + 1) t (.string (str x))).run P w = .ok () w := by
  simp [Instr.checkKey, run_und ht]
theorem lookup_sound (ok : CtxOk P C) {H : View} {ι : Own} {st : St} {w : World} (hb : ∀ id, BlkOk C H ι st.sto w id) {tm : Nat → Value} {a : Act} {ev : Operand → AV} (hev : ∀ x, RepS C H ι st.sto tm (ev x) (a.eval x))
    {t : Nat} {m k : Operand} {b : Bool} {v : AV} (h : apure C st ev (.lookup t m k b) = some (true, v)) :
    ∃ q, (Instr.lookup t (a.eval m) (a.eval k) b).run P w = .ok q w ∧ RepA C H ι st.sto v q := by
  cases b with
  | false => simp [apure] at h
  | true =>
    simp only [apure] at h
    split at h
    · rename_i kt vt bt id x hte hm hk
      split at h
      · rename_i t' es hs hkt hbt
        obtain ⟨hc, h'⟩ := cond_some h
        clear h
        simp only [nbeq, decide_eq_true_eq] at hc
        subst hc
        cases h'
        have hm' := hev m
        rw [hm] at hm'
        have hm' : RepMp ι st.sto id (a.eval m) := hm'
        have hk' := hev k
        rw [hk] at hk'
        have hk' : a.eval k = .string (str x) := hk'
        have hbk := hb id
        unfold BlkOk at hbk
        unfold RepMp at hm'
        rw [hs] at hbk hm'
        obtain ⟨g, es', clock, kt', vt', bt', b1, b2, b3, b4⟩ := hbk
        rw [hte] at b3
        simp only [Option.some.injEq, Ty.map.injEq] at b3
        obtain ⟨rfl, rfl, rfl⟩ := b3
        obtain ⟨u1, u2, u3, u4, kd, i, u5, u6, u7⟩ := ok.und t _ hte
        have hv : a.eval m = .map (some g) := by rw [hm', b1]
        have hz : (zeroValue vt).run P w = .ok (.int kd 0) w := by simp [zeroValue, run_info u6, u7]
        have hg : (getObj g).run P w = .ok (.map es' clock) w := by simp [getObj, Sem.run, b2]
        have hbt' : ∀ y : Bool, ∃ cs, IsVal C bt (.bool y) cs ∧ Rep C H bt cs (.B y) := fun y => ⟨[.bool y], isVal_one (by simp [hbt]), .bool (u := .B y) hbt⟩
        rcases findNow_rep (x := x) 0 b4 with ⟨k1, k2, k3, _⟩ | ⟨k1, j, e, k2, k3, k4, k5, _⟩
        · refine ⟨.tuple #[.int kd 0, .bool false], ?_, [.int kd 0, .bool false], rfl, ?_, ?_, trivial⟩
          · rw [hv, hk']
            simp [Instr.lookup, run_und u1, hg, run_checkKey u3 _ 9999 x w, run_findKey u3 k2 w, hz]
          · exact ⟨[.int kd 0], isVal_one (by simp [u5]), by
              have := Rep.int (C := C) (H := H) (u := .I 0) u5
              simpa [U.ofL, U.get, U.nth, k3, U.toI] using this⟩
          · have := hbt' false
            simpa [U.ofL, U.get, U.nth, k1] using this
        · refine ⟨.tuple #[e.val, .bool true], ?_, [e.val, .bool true], rfl, ?_, ?_, trivial⟩
          · rw [hv, hk']
            simp [Instr.lookup, run_und u1, hg, run_checkKey u3 _ 9999 x w, run_findKey u3 k3 w]
          · have := k5 (.I 0)
            simpa [U.ofL, U.get, U.nth] using this
          · have := hbt' true
            simpa [U.ofL, U.get, U.nth, k1] using this
      · cases h
    · cases h

set_option maxHeartbeats 1000000 in
theorem apure_sound (ok : CtxOk P C) (zok : ZeroOk P C) {H : View} {ι : Own} {st : St} {w : World} (hH : H.le (World.view w)) (hb : ∀ id, BlkOk C H ι st.sto w id) {a : Act} {ev : Operand → AV}
    (hev : ∀ x, RepS C H ι st.sto (tmOf a) (ev x) (a.eval x)) {o : Oper} {v : AV} (h : apure C st ev o.op = some (true, v)) :
    ∃ q, (execOp a.eval o).run P w = .ok (.value q) w ∧ RepS C H ι st.sto (tmOf a) v q := by
  cases ho : o.op with
  | move x =>
    rw [ho] at h; simp only [apure, Option.some.injEq, Prod.mk.injEq, true_and] at h; subst h
    exact ⟨_, by simp [execOp, ho], hev x⟩
  | assign x =>
    rw [ho] at h; simp only [apure, Option.some.injEq, Prod.mk.injEq, true_and] at h; subst h
    exact ⟨_, by simp [execOp, ho], hev x⟩
  | pick c x y =>
    rw [ho] at h
    cases c with
    | tmp tc =>
      simp only [apure] at h
      split at h
      · rename_i c hc
        have h1 := hev (.tmp tc)
        rw [hc] at h1
        have h1 : a.eval (.tmp tc) = .bool c := h1
        have htm : tmOf a tc = .bool c := h1
        have hrun : (execOp a.eval o).run P w = .ok (.value (if c = true then a.eval x else a.eval y)) w := by
          simp [execOp, ho, h1, asBool]
        refine ⟨_, hrun, ?_⟩
        have hx : c = true → RepS C H ι st.sto (tmOf a) (unc tc true (ev x)) (a.eval x) := fun e => unc_sound (by rw [htm, e]) (hev x)
        have hy : c = false → RepS C H ι st.sto (tmOf a) (unc tc false (ev y)) (a.eval y) := fun e => unc_sound (by rw [htm, e]) (hev y)
        split at h
        · rename_i yv hyv
          cases h
          cases c with
          | true => simp; rfl
          | false => have := hy rfl; rw [hyv] at this; simp; exact this
        · rename_i xv hxv _
          cases h
          cases c with
          | true => have := hx rfl; rw [hxv] at this; simp; exact this
          | false => simp; rfl
        · rename_i xv yv _ _ hxv hyv
          cases h
          cases c with
          | true => have := hx rfl; rw [hxv] at this; simp; exact this
          | false => have := hy rfl; rw [hyv] at this; simp; exact this
        · cases h
      · cases h
    | _ => simp [apure] at h
  | binOp op t x y yt =>
    rw [ho] at h; simp only [apure] at h
    obtain ⟨q, h1, h2⟩ := abin_sound ok hb (ox := x) (oy := y) h (hev x) (hev y)
    exact ⟨q, by simp only [execOp, ho]; exact exec_v h1, .of h2⟩
  | unOp op t x =>
    rw [ho] at h; simp only [apure] at h
    split at h
    · rename_i b hx
      have := hev x; rw [hx] at this
      have e : a.eval x = .bool b := this
      cases h
      exact ⟨.bool !b, by simp [execOp, ho, e, Op.unary], rfl⟩
    · rename_i k n hx
      have := hev x; rw [hx] at this
      have e : a.eval x = .int k n := this
      cases h
      exact ⟨.int k (k.wrap (0 - n)), by simp [execOp, ho, e, Op.unary, Op.intArith], rfl⟩
    · cases h
  | load t x =>
    rw [ho] at h; simp only [apure, Option.map_eq_some_iff, Prod.mk.injEq, true_and] at h
    obtain ⟨v', h1, rfl⟩ := h
    have hx : RepA C H ι st.sto (ev x) (a.eval x) := by
      have := hev x
      cases hcv : isCv (ev x) with
      | false => rwa [RepS.eq hcv] at this
      | true => revert h1 hcv; cases ev x <;> simp [isCv, aload]
    obtain ⟨q, k1, k2⟩ := aload_sound ok hH hb h1 hx
    exact ⟨q, by simp only [execOp, ho]; exact exec_v k1, .of k2⟩
  | fieldAddr t x j =>
    rw [ho] at h
    obtain ⟨q, k1, k2⟩ := fieldAddr_sound (w := w) ok hev h
    exact ⟨q, by simp only [execOp, ho]; exact exec_v k1, .of k2⟩
  | field t x j =>
    rw [ho] at h
    obtain ⟨q, k1, k2⟩ := field_sound (w := w) ok hev h
    exact ⟨q, by simp only [execOp, ho]; exact exec_v k1, .of k2⟩
  | indexAddr t x i =>
    rw [ho] at h
    obtain ⟨q, k1, k2⟩ := indexAddr_sound ok hb hev h
    exact ⟨q, by simp only [execOp, ho]; exact exec_v k1, .of k2⟩
  | index t x i =>
    rw [ho] at h
    obtain ⟨q, k1, k2⟩ := index_sound (w := w) ok hev h
    exact ⟨q, by simp only [execOp, ho]; exact exec_v k1, .of k2⟩
  | slice t x lo hi mx =>
    rw [ho] at h
    obtain ⟨q, k1, k2⟩ := slice_sound ok hb hev h
    exact ⟨q, by simp only [execOp, ho]; exact exec_v k1, .of k2⟩
  | convert t1 t2 x =>
    rw [ho] at h
    obtain ⟨q, k1, k2⟩ := convert_sound ok hb hH hev h
    exact ⟨q, by simp only [execOp, ho]; exact exec_v k1, .of k2⟩
  | extract x j =>
    rw [ho] at h
    obtain ⟨q, k1, k2⟩ := extract_sound (w := w) hev h
    exact ⟨q, by simp only [execOp, ho]; exact exec_v k1, .of k2⟩
  | makeFunc fn first caps =>
    rw [ho] at h
    obtain ⟨q, k1, k2⟩ := makeFunc_sound (w := w) hev h
    exact ⟨q, by simp only [execOp, ho]; exact exec_v k1, .of k2⟩
  | call c =>
    rw [ho] at h
    obtain ⟨q, k1, k2⟩ := len_sound ok hb hev h o.type
    exact ⟨q, by simp only [execOp, ho]; exact k1, .of k2⟩
  | build t parts =>
    rw [ho] at h; simp only [apure] at h
    split at h
    · rename_i fs us ht hus
      obtain ⟨hc, h⟩ := cond_some h
      cases h
      simp only [Bool.and_eq_true] at hc
      obtain ⟨q, k1, k2⟩ := build_sound ok zok hev w ht hus hc.1 hc.2
      exact ⟨q, by simp only [execOp, ho]; exact exec_v k1, .of k2⟩
    · cases h
  | lookup t m k ok' =>
    rw [ho] at h
    obtain ⟨q, k1, k2⟩ := lookup_sound ok hb hev h
    exact ⟨q, by simp only [execOp, ho]; exact exec_v k1, .of k2⟩
  | _ => rw [ho] at h; simp [apure] at h

end Go.Ab
