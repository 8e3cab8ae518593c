/- Steps that change the store: the frame of all of them. -/
import Derived.Test.YtnahhhaicalmcaaDoorAbCall3
import Derived.Laws.MakeOwn
import Derived.Laws.OwnMore
import Derived.Lib.ConvBytes
set_option linter.unusedVariables false
set_option linter.unusedSimpArgs false
namespace Go.Ab
open Go.RowKit
variable {C : Ctx} {P : Program}

theorem Keep.weaken {O O' : Nat → Prop} {w w' : World} (h : Keep O w w') (hO : ∀ b, O b → O' b) : Keep O' w w' :=
  ⟨h.os, h.tape, h.output, h.size, h.drawn, fun k hk hn => h.block k hk (fun ho => hn (hO k ho))⟩

section
variable {f : Fr} {ι : Own} {st : St} {a : Act} {w w' : World}

theorem StoLe.fresh {d : Nat} (hd : st.sto d = none) {v : Value} {b : Blk} : StoLe ι st.sto (setO ι d v) (st.blk d b).sto := by
  intro id
  by_cases hid : id = d
  · subst hid; rw [hd]; trivial
  · have e1 : (st.blk d b).sto id = st.sto id := by simp [St.blk, nbeq, hid]
    have e2 : setO ι d v id = ι id := by simp [setO, hid]
    rw [e1, e2]
    exact StoLe.refl ι st.sto id

/-- a block is made, or an own one is taken over by a new name -/
theorem Sim.fresh (hf : FrOk f) (s : Sim C f ι st a w) {d : Nat} (hd : st.sto d = none) {b : Blk} {v : Value} (hk : Keep (fun _ => False) w w') (hv : ∀ g, blkOf v = some g → w.heap.size ≤ g)
    (hb : (view f ι st.sto w).le (view f (setO ι d v) (st.blk d b).sto w') → BlkOk C (view f (setO ι d v) (st.blk d b).sto w') (setO ι d v) (st.blk d b).sto w' d) :
    Sim C f (setO ι d v) (st.blk d b) a w' ∧ (view f ι st.sto w).le (view f (setO ι d v) (st.blk d b).sto w') := by
  have hne : ∀ id, id ≠ d → (st.blk d b).sto id = st.sto id ∧ setO ι d v id = ι id := fun id h => by simp [St.blk, nbeq, h, setO]
  have hsd : setO ι d v d = v := by simp [setO]
  have hl : ∀ id, id ≠ d → live (st.blk d b).sto id → live st.sto id := fun id h h1 => by unfold live at h1 ⊢; rwa [(hne id h).1] at h1
  obtain ⟨s', hv'⟩ := Sim.step (C := C) (a := a) (w' := w') (ι' := setO ι d v) (sto' := (st.blk d b).sto) hf s (StoLe.fresh hd)
    (fun id g h1 h2 h3 => by
      by_cases hid : id = d
      · subst hid
        rw [hsd] at h2
        have := hv g h2
        omega
      · rw [(hne id hid).2] at h2
        exact ⟨id, hl id hid h1, h2⟩)
    (fun g h1 _ => hk.block g h1 (fun h => h)) (hk.weaken fun _ h => h.elim)
    (fun id h1 => by
      by_cases hid : id = d
      · subst hid; exact .inr hb
      · refine .inl ⟨(hne id hid).1, (hne id hid).2, fun g hg => hk.block g ((s.blk id).lt (hl id hid h1) hg) (fun h => h)⟩)
    (fun id id' g h1 h2 e1 e2 => by
      by_cases c1 : id = d
      · subst c1
        by_cases c2 : id' = id
        · exact c2.symm
        · rw [hsd] at e1
          rw [(hne id' c2).2] at e2
          have := hv g e1
          have := (s.blk id').lt (hl id' c2 h2) e2
          omega
      · by_cases c2 : id' = d
        · subst c2
          rw [hsd] at e2
          rw [(hne id c1).2] at e1
          have := hv g e2
          have := (s.blk id).lt (hl id c1 h1) e1
          omega
        · rw [(hne id c1).2] at e1
          rw [(hne id' c2).2] at e2
          exact s.inj id id' g (hl id c1 h1) (hl id' c2 h2) e1 e2)
    (fun id g h1 h2 => by
      by_cases hid : id = d
      · subst hid
        rw [hsd] at h2
        exact .inl (Nat.le_trans s.keep.size (hv g h2))
      · rw [(hne id hid).2] at h2
        exact s.rng id g (hl id hid h1) h2)
  exact ⟨s', hv'⟩

/-- an own block's content is changed -/
theorem Sim.upd (hf : FrOk f) (s : Sim C f ι st a w) {d : Nat} {b0 b : Blk} (hs : st.sto d = some b0) (hlive : live st.sto d) (hle : StoLe ι st.sto ι (st.blk d b).sto) (hk : Keep (fun g => blkOf (ι d) = some g) w w')
    (hb : (view f ι st.sto w).le (view f ι (st.blk d b).sto w') → BlkOk C (view f ι (st.blk d b).sto w') ι (st.blk d b).sto w' d) :
    Sim C f ι (st.blk d b) a w' ∧ (view f ι st.sto w).le (view f ι (st.blk d b).sto w') := by
  have hne : ∀ id, id ≠ d → (st.blk d b).sto id = st.sto id := fun id h => by simp [St.blk, nbeq, h]
  have hl : ∀ id, live (st.blk d b).sto id → live st.sto id := fun id h1 => by
    by_cases h : id = d
    · subst h; exact hlive
    · unfold live at h1 ⊢; rwa [hne id h] at h1
  exact Sim.step (C := C) (a := a) (w' := w') (ι' := ι) (sto' := (st.blk d b).sto) hf s hle
    (fun id g h1 h2 _ => ⟨id, hl id h1, h2⟩)
    (fun g h1 h2 => hk.block g h1 (fun h => h2 d hlive h)) (hk.weaken fun _ _ => trivial)
    (fun id h1 => by
      by_cases hid : id = d
      · subst hid; exact .inr hb
      · exact .inl ⟨hne id hid, rfl, fun g hg => hk.block g ((s.blk id).lt (hl id h1) hg) (fun h => hid (s.inj id d g (hl id h1) hlive hg h))⟩)
    (fun id id' g h1 h2 e1 e2 => s.inj id id' g (hl id h1) (hl id' h2) e1 e2)
    (fun id g h1 h2 => s.rng id g (hl id h1) h2)

/-- the world grows, the store stays -/
theorem Sim.grow (hf : FrOk f) (s : Sim C f ι st a w) (hk : Keep (fun _ => False) w w') : Sim C f ι st a w' ∧ (view f ι st.sto w).le (view f ι st.sto w') :=
  Sim.step (C := C) (a := a) (w' := w') (ι' := ι) (sto' := st.sto) hf s (StoLe.refl _ _)
    (fun id g h1 h2 _ => ⟨id, h1, h2⟩) (fun g h1 _ => hk.block g h1 (fun h => h)) (hk.weaken fun _ _ => trivial)
    (fun id h1 => .inl ⟨rfl, rfl, fun g hg => hk.block g ((s.blk id).lt h1 hg) (fun h => h)⟩) s.inj s.rng
end

/-! What goes into a box. -/
theorem fits_one {H : View} {ι : Own} {st : St} {x : AV} {v : Value} {t : Nat} (hf : fitsArg C st t x = true) (hn : ∀ fs, C.te t ≠ some (.st fs)) (hb : ∀ id, ∀ w, BlkOk C H ι st.sto w id → True) (r : RepA C H ι st.sto x v)
    (how : ∀ id r', x = .ow id r' → ∃ a n c, v = .slice a n c) : v.cells = #[v] ∧ v.oneCell' = true := by
  cases x with
  | i k n => rw [show v = _ from r]; exact ⟨rfl, rfl⟩
  | b y => rw [show v = _ from r]; exact ⟨rfl, rfl⟩
  | s y => rw [show v = _ from r]; exact ⟨rfl, rfl⟩
  | nl => rw [show v = _ from r]; exact ⟨rfl, rfl⟩
  | sl e u => rcases r with ⟨_, _, rfl⟩ | ⟨a, cap, cs, rfl, _⟩ <;> exact ⟨rfl, rfl⟩
  | st t' u =>
    cases ht : C.te t with
    | none => simp [fitsArg, ht, fitsT] at hf
    | some ty => cases ty <;> simp_all [fitsArg, fitsT]
  | fn t' u =>
    obtain ⟨⟨ps, r', h1⟩, h2⟩ := r
    cases h2 with
    | fn => exact ⟨rfl, rfl⟩
    | _ => simp_all
  | clo f caps => obtain ⟨vs, rfl, _⟩ := r; exact ⟨rfl, rfl⟩
  | ow id r' => obtain ⟨a, n, c, rfl⟩ := how id r' rfl; exact ⟨rfl, rfl⟩
  | rp t' u => obtain ⟨a, cs, rfl, _⟩ := r; exact ⟨rfl, rfl⟩
  | _ => cases ht : C.te t with
    | none => simp [fitsArg, ht, fitsT] at hf
    | some ty => cases ty <;> simp [fitsArg, ht, fitsT] at hf

theorem ofU_flat {H : View} {t : Nat} {cs : List Value} {u u' : U} (r : Rep C H t cs u) (h : (ofU C t u).flat = some u') : Rep C H t cs u' := by
  unfold ofU at h
  cases r with
  | int h' => rw [h'] at h; simp [AV.flat] at h; subst h; exact .int (u := .I _) h'
  | bool h' => rw [h'] at h; simp [AV.flat] at h; subst h; exact .bool (u := .B _) h'
  | str h' => rw [h'] at h; simp [AV.flat] at h; subst h; exact .str (u := .S _) h'
  | nil h' h0 hn => rw [h'] at h; simp [AV.flat] at h; subst h; exact .nil h' h0 hn
  | sl cs h' a b c d => rw [h'] at h; simp [AV.flat] at h; subst h; exact .sl cs h' a b c d
  | st cs h' a b => rw [h'] at h; simp [AV.flat] at h; subst h; exact .st cs h' a b
  | fn ad cs h' a b c d e f g i => rw [h'] at h; simp [AV.flat] at h; subst h; exact .fn ad cs h' a b c d e f g i
  | ptr cs h' a b c => rw [h'] at h; simp [AV.flat] at h; subst h; exact .ptr cs h' a b c

theorem fields_vs (ok : CtxOk P C) {H : View} {ι : Own} {sto : Sto} : ∀ (fs : List Nat) (k : Nat) (cs : Nat → List Value) (g : Nat → U), (∀ j, j < fs.length → Rep C H (nthN fs j) (cs j) (g (k + j))) →
    RepVs C H ι sto fs ((fs.zipIdx k).map fun p => ofU C p.1 (g p.2)) ((List.range fs.length).flatMap cs)
  | [], _, _, _, _ => rfl
  | t :: fs, k, cs, g, h => by
    have h0 : Rep C H t (cs 0) (g k) := by simpa [nthN] using h 0 (by simp)
    obtain ⟨v, hv⟩ := h0.isVal
    have ih := fields_vs ok (ι := ι) (sto := sto) fs (k + 1) (fun j => cs (j + 1)) g (fun j hj => by
      have := h (j + 1) (by simpa using hj)
      simpa [nthN, Nat.add_assoc, Nat.add_comm 1 j] using this)
    refine ⟨v, cs 0, _, ?_, h0.length ok, hv, h0.ofU hv, h0.cells1, fun u hu => ofU_flat h0 hu, ih⟩
    rw [List.length_cons, List.range_succ_eq_map, List.flatMap_cons, List.flatMap_map]

theorem ow_slice {H : View} {ι : Own} {st : St} {w : World} (hb : ∀ id, BlkOk C H ι st.sto w id) (hH : H.le (World.view w)) {t : Nat} {x : AV} {v : Value} (hf : fitsArg C st t x = true) (r : RepA C H ι st.sto x v) : ∀ id r', x = .ow id r' → ∃ a n c, v = .slice a n c := by
  intro id r' hx
  subst hx
  cases ht : C.te t with
  | none => simp [fitsArg, ht, fitsT] at hf
  | some ty =>
    cases ty with
    | sl e =>
      obtain ⟨⟨z, xs, hs⟩, _⟩ := fits_sl ht hf
      rcases ow_repSl hH (hb id) hs r with ⟨_, _, rfl⟩ | ⟨a, cap, cs, rfl, _⟩
      · exact ⟨_, _, _, rfl⟩
      · exact ⟨_, _, _, rfl⟩
    | _ => simp [fitsArg, ht, fitsT] at hf

theorem unbox_plain (ok : CtxOk P C) {H : View} {ι : Own} {st : St} {w : World} (hb : ∀ id, BlkOk C H ι st.sto w id) (hH : H.le (World.view w)) {t : Nat} {ty : Ty} {x : AV} {v : Value} (ht : C.te t = some ty) (hn : ∀ fs, ty ≠ .st fs) (hc : fitsArg C st t x = true) (r : RepA C H ι st.sto x v) :
    RepVs C H ι st.sto (boxTs C t) [x] v.cells.toList ∧ v.cells.size = C.sz t ∧ (∀ u ∈ v.cells.toList, u.oneCell' = true) := by
  have hne : ∀ fs, C.te t ≠ some (.st fs) := fun fs e => by rw [e] at ht; cases ht; exact hn fs rfl
  rw [boxTs_one hne]
  obtain ⟨e1, e2⟩ := fits_one hc hne (fun _ _ _ => trivial) r (ow_slice hb hH hc r)
  have hsz : C.sz t = 1 := ok.one t ty ht (fun fs e => hn fs e)
  refine ⟨⟨v, [v], [], by simp [e1], by simp [hsz], isVal_one hne, r, by simpa using e2, fun u hu => ?_, rfl⟩, by simp [e1, hsz], by simpa [e1] using e2⟩
  have hto : x.toU st = some u := by cases x <;> simp_all [AV.toU, AV.flat]
  obtain ⟨cs, k1, k2⟩ := toU_rep hb (View.le.refl _) (fun id hid => by cases x <;> simp_all [AV.flat, ownsOf]) r hc hto
  rw [isVal_inj k1 (isVal_one hne)] at k2
  exact k2
/-- what goes into a box -/
theorem unbox_sound (ok : CtxOk P C) {H : View} {ι : Own} {st : St} {w : World} (hb : ∀ id, BlkOk C H ι st.sto w id) (hH : H.le (World.view w)) {t : Nat} {x : AV} {v : Value} {vs : List AV} (h : unbox C st t x = some vs) (r : RepA C H ι st.sto x v) :
    RepVs C H ι st.sto (boxTs C t) vs v.cells.toList ∧ v.cells.size = C.sz t ∧ (∀ u ∈ v.cells.toList, u.oneCell' = true) := by
  unfold unbox at h
  split at h
  · rename_i fs ht
    rw [boxTs_st ht]
    split at h
    · rename_i t' u
      obtain ⟨hc, h⟩ := cond_some h
      cases h
      simp only [nbeq, decide_eq_true_eq] at hc
      subst hc
      obtain ⟨cs, fs', h1, rfl, h2⟩ := r
      have hl := h2.length ok
      have h1c := h2.cells1
      refine ⟨?_, by simpa [Value.cells] using hl, by simpa [Value.cells] using h1c⟩
      cases h2 with
      | @st _ fs2 _ _ cs h' hr hl =>
        rw [ht] at h'; cases h'
        have := fields_vs ok (ι := ι) (sto := st.sto) fs 0 cs u.get (fun j hj => by simpa using hr j hj)
        simpa [Value.cells, hl] using this
      | _ => simp_all
    · cases h
  · rename_i ps rt ht
    obtain ⟨hc, h⟩ := cond_some h
    cases h
    have hne : ∀ fs, C.te t ≠ some (.st fs) := fun fs e => by rw [e] at ht; cases ht
    cases hfa : fitsArg C st t x with
    | true => exact unbox_plain ok hb hH ht (fun fs e => by cases e) hfa r
    | false =>
      rw [hfa, Bool.false_or] at hc
      cases x with
      | clo g caps =>
        obtain ⟨cvs, rfl, h2⟩ := r
        have hsz : C.sz t = 1 := ok.one t _ ht (fun fs e => by cases e)
        rw [boxTs_one hne]
        exact ⟨⟨_, [_], [], rfl, by simp [hsz], isVal_one hne, ⟨cvs, rfl, h2⟩, by intro u hu; simp at hu; subst hu; rfl, fun u hu => by simp [AV.flat] at hu, rfl⟩, by simp [hsz, Value.cells], by intro u hu; simp [Value.cells] at hu; subst hu; rfl⟩
      | _ => simp at hc
  · rename_i kt vt bt ht
    have hne : ∀ fs, C.te t ≠ some (.st fs) := fun fs e => by rw [e] at ht; cases ht
    split at h
    · rename_i id
      split at h
      · rename_i t' es hs
        obtain ⟨hc, h'⟩ := cond_some h
        clear h
        cases h'
        have r' : RepMp ι st.sto id v := r
        unfold RepMp at r'
        rw [hs] at r'
        have hbk := hb id
        unfold BlkOk at hbk
        rw [hs] at hbk
        obtain ⟨g, es', clock, kt', vt', bt', b1, _⟩ := hbk
        have hv : v = .map (some g) := by rw [r', b1]
        have hsz : C.sz t = 1 := ok.one t _ ht (fun fs e => by cases e)
        rw [boxTs_one hne]
        subst hv
        exact ⟨⟨_, [_], [], rfl, by simp [hsz], isVal_one hne, r, by intro u hu; simp at hu; subst hu; rfl, fun u hu => by simp [AV.flat] at hu, rfl⟩, by simp [hsz, Value.cells], by intro u hu; simp [Value.cells] at hu; subst hu; rfl⟩
      · cases h
    · cases h
  · rename_i ty hn _ _ ht
    obtain ⟨hc, h⟩ := cond_some h
    cases h
    exact unbox_plain ok hb hH ht (fun fs e => hn fs e) hc r
  · cases h

theorem sound_newVar {f : Fr} (hf : FrOk f) {ι : Own} {st : St} {a : Act} {w : World} (s : Sim C f ι st a w) {d t : Nat} (hd : st.sto d = none) {vs : List AV} {cells : Array Value} (ht : ∃ ty, C.te t = some ty)
    (h : RepVs C (view f ι st.sto w) ι st.sto (boxTs C t) vs cells.toList) :
    ∃ ι', Sim C f ι' ((st.blk d (.box t vs)).put (some d) (.pb d [])) (a.put (some d) (.pointer (some ⟨w.heap.size, 0, none⟩))) (w.alloc (.cells cells t)) := by
  have hk : Keep (fun _ => False) w (w.alloc (.cells cells t)) := ⟨rfl, rfl, rfl, by simp, Nat.le_refl _, fun k hk _ => heap_alloc_old w _ hk⟩
  have hset : setO ι d (.pointer (some ⟨w.heap.size, 0, none⟩)) d = .pointer (some ⟨w.heap.size, 0, none⟩) := by simp [setO]
  have hst : (st.blk d (.box t vs)).sto d = some (.box t vs) := by simp [St.blk, nbeq]
  obtain ⟨s', hv⟩ := s.fresh hf hd (b := .box t vs) (v := .pointer (some ⟨w.heap.size, 0, none⟩)) hk (fun g hg => by simp [blkOf] at hg; omega) (fun hle => by
    unfold BlkOk
    rw [hst]
    exact ⟨w.heap.size, cells, hset, heap_alloc_new w _, ht, h.mono hle (StoLe.fresh hd)⟩)
  refine ⟨_, s'.put (some d) (fun _ _ _ => .of ?_)⟩
  show RepPb C _ _ d [] _
  unfold RepPb
  rw [hst]
  exact ⟨trivial, w.heap.size, hset, rfl⟩

end Go.Ab
