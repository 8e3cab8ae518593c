/- slices.SortFunc on a row of whole numbers that is the call's own: what the evaluator says of it, it does. -/
import Derived.Test.YtbppeodcnkghpaaAbSort
import Derived.Shelf.SlSortCmp.NoneTotal
set_option linter.unusedVariables false
set_option linter.unusedSimpArgs false
namespace Go.Ab
open Go.RowKit Go.Shelf Go.Proofs Go.Sort
variable {P : Program} {C : Ctx}

theorem grow_of_keep {w w' : World} (h : Keep (fun _ => False) w w') : ∃ (q : Nat) (os : Array Obj), w' = Go.Sort.grow (w.drewN q) os := by
  have hh : w'.heap = w.heap ++ w'.heap.extract w.heap.size w'.heap.size := by
    have hs := h.size
    apply Array.ext_getElem?
    intro k
    rw [Array.getElem?_append]
    split
    · exact h.block k (by assumption) (fun x => x)
    · rw [Array.getElem?_extract]
      split
      · congr 1; omega
      · rw [Array.getElem?_eq_none (by omega)]
  refine ⟨w'.drawn - w.drawn, w'.heap.extract w.heap.size w'.heap.size, ?_⟩
  have h1 := h.os
  have h2 := h.tape
  have h3 := h.output
  have h4 := h.drawn
  cases w' with
  | mk hp tp dr os out =>
    unfold Go.Sort.grow World.drewN
    simp only [World.mk.injEq] at *
    exact ⟨hh, h2, by omega, h1, h3⟩
theorem rep_fn {V : View} {tf r : Nat} {ps : List Nat} {u : U} {v : Value} (ht : C.te tf = some (.fn ps r)) (h : Rep C V tf [v] u) : ∃ (fi : Fn) (ad : Nat → Addr) (cs : Nat → List Value), C.fn u.fid = some fi ∧ fi.params = ps ∧ fi.rts = [r] ∧ fi.own.all Option.isNone = true ∧ fi.out.all Option.isNone = true ∧ u.len = fi.caps.length ∧
    (∀ j, j < fi.caps.length → (ad j).spot = none ∧ At V (ad j) (cs j)) ∧ (∀ j, j < fi.caps.length → Rep C V (nthN fi.caps j) (cs j) (u.get j)) ∧ v = .func (.func u.fid) #[] ((List.range fi.caps.length).map fun j => .pointer (some (ad j))).toArray := by
  generalize hl : [v] = l at h
  cases h with
  | @fn _ ps' r' _ fi ad cs h hf hp hr ho hu hn ha hc =>
    rw [h] at ht
    cases ht
    exact ⟨fi, ad, cs, hf, hp, hr, ho, hu, hn, ha, hc, List.head_eq_of_cons_eq hl⟩
  | int h => rw [h] at ht; cases ht
  | bool h => rw [h] at ht; cases ht
  | str h => rw [h] at ht; cases ht
  | nil h => rw [h] at ht; cases ht
  | sl cs h => rw [h] at ht; cases ht
  | st cs h => rw [h] at ht; cases ht
  | ptr cs h => rw [h] at ht; cases ht
theorem capsL_of' {H : View} : ∀ (caps : List Nat) (us : List U) (vs : List Value), us.length = caps.length → vs.length = caps.length → (∀ j, j < caps.length → RepPtr C H (nthN caps j) (U.nth us j) (vs.getD j undef)) → CapsL C H caps us vs
  | [], [], [], _, _, _ => trivial
  | t :: ts, u :: us, v :: vs, h1, h2, h => ⟨h 0 (by simp), capsL_of' ts us vs (by simpa using h1) (by simpa using h2) fun j hj => by simpa [nthN, U.nth] using h (j + 1) (by simpa using hj)⟩
  | [], _ :: _, _, h1, _, _ => by simp at h1
  | [], [], _ :: _, _, h2, _ => by simp at h2
  | _ :: _, [], _, h1, _, _ => by simp at h1
  | _ :: _, _ :: _, [], _, h2, _ => by simp at h2
theorem hd0_nil' {os : List (Option Bool)} (h : os.all Option.isNone = true) : hd0 os = none := by
  cases os with
  | nil => rfl
  | cons o os => simp at h; exact h.1
theorem tail_nil' {os : List (Option Bool)} (h : os.all Option.isNone = true) : os.tail.all Option.isNone = true := by
  cases os with
  | nil => rfl
  | cons o os => simp at h ⊢; exact h.2
theorem isVal_int {t : Nat} {k : IntKind} (h : C.te t = some (.int k)) (v : Value) : IsVal C t v [v] := by unfold IsVal; rw [h]
/-- the comparison is called -/
theorem cmp_call (fok : FnOk P C) (hpr : ∀ g fi, C.fn g = some fi → C.prim g = none) {e tf : Nat} (he : C.te e = some (.int .i64)) {V : View} {u : U} {fi : Fn} {ad : Nat → Addr} {cs : Nat → List Value} (hfi : C.fn u.fid = some fi) (hp : fi.params = [e, e]) (hrt : fi.rts = [e]) (ho : fi.own.all Option.isNone = true) (hou : fi.out.all Option.isNone = true) (hn : u.len = fi.caps.length)
    (ha : ∀ j, j < fi.caps.length → (ad j).spot = none ∧ At V (ad j) (cs j)) (hc : ∀ j, j < fi.caps.length → Rep C V (nthN fi.caps j) (cs j) (u.get j)) {W : World} (hV : V.le (World.view W)) {x y r : U} (hS : Spec P C u.fid ([x, y] ++ u.toL) r) :
    Calls P u.fid (#[.int .i64 x.toI, .int .i64 y.toI] ++ ((List.range fi.caps.length).map fun j => .pointer (some (ad j))).toArray) W fun e' w' => e' = .returned (.int .i64 r.toI) ∧ ∃ (q : Nat) (os : Array Obj), w' = Go.Sort.grow (W.drewN q) os := by
  have hspec := Spec.old hS hfi
  have hf : FrOk ⟨V, W, fun _ => False, fun _ _ => False⟩ := ⟨hV, fun _ _ h => h.elim, fun _ h => h.elim, fun _ _ h => h.elim⟩
  have hD := hspec ⟨V, W, fun _ => False, fun _ _ => False⟩ ([.int .i64 x.toI, .int .i64 y.toI] ++ (List.range fi.caps.length).map fun j => .pointer (some (ad j))) hf (fun _ _ h => h) ⟨[x, y], u.toL, [.int .i64 x.toI, .int .i64 y.toI], _, rfl, rfl, by
    rw [hp]
    refine ⟨?_, ?_, trivial⟩
    · unfold Res1; rw [hd0_nil' ho]; exact ⟨_, isVal_int he _, .int he⟩
    · unfold Res1; rw [hd0_nil' (tail_nil' ho)]; exact ⟨_, isVal_int he _, .int he⟩, capsL_of' _ _ _ (by rw [toL_len, hn]) (by simp) fun j hj => by
      rw [toL_nth u j (by omega)]
      exact ⟨ad j, cs j, by simp [List.getD, hj], (ha j hj).1, (ha j hj).2, hc j hj⟩⟩
  obtain ⟨fn, f1, f2, _, _, f5⟩ := fok _ fi (hpr _ _ hfi) (by simp [Ctx.fx, hfi])
  have hrun : ∀ args w, (callFunc u.fid args).run P w = .ok (.enter u.fid args) w := fun args w => by simp [callFunc, f1, f2, f5]
  rcases hD with ⟨_, h2⟩ | ⟨v, w', h1, _⟩
  · have e1 : ([Value.int .i64 x.toI, .int .i64 y.toI] ++ (List.range fi.caps.length).map fun j => Value.pointer (some (ad j))).toArray = #[Value.int .i64 x.toI, .int .i64 y.toI] ++ ((List.range fi.caps.length).map fun j => Value.pointer (some (ad j))).toArray := by simp
    rw [e1] at h2
    refine h2.mono fun e' w' he' => ?_
    cases e' with
    | returned v =>
      obtain ⟨hk, X, rvs, hret, rfl⟩ := he'
      rw [hrt] at hret
      match rvs, hret with
      | [v], hret =>
        obtain ⟨h3, _⟩ := hret
        unfold Res1 at h3
        rw [hd0_nil' hou] at h3
        obtain ⟨cs', a1, a2⟩ := h3
        have a2 : Rep C _ e cs' r := a2
        cases a2 with
        | @int _ k _ h =>
          rw [h] at he
          cases he
          have : IsVal C e v [.int .i64 r.toI] := a1
          unfold IsVal at this
          rw [h] at this
          simp only [List.cons.injEq, and_true] at this
          subst this
          exact ⟨rfl, grow_of_keep hk⟩
        | _ => simp_all
      | [], hret => exact hret.elim
      | _ :: _ :: _, hret => exact hret.2.elim
    | panicked _ => exact he'.elim
    | outgrown => exact he'.elim
  · rw [hrun] at h1; cases h1
theorem fn_enters (fok : FnOk P C) (hpr : ∀ g fi, C.fn g = some fi → C.prim g = none) {g : Nat} {fi : Fn} (hfi : C.fn g = some fi) : ∀ args w, (callFunc g args).run P w = .ok (.enter g args) w := fun args w => by
  obtain ⟨fn, f1, f2, _, _, f5⟩ := fok _ fi (hpr _ _ hfi) (by simp [Ctx.fx, hfi])
  simp [callFunc, f1, f2, f5]
/-- the state behind the sort -/
theorem sort_post (f : Fr) (hkp : ∀ k o, ¬ f.kp k o) {ι : Own} {e nt : Nat} {ty : Ty} (hte : C.te e = some ty) (h1 : C.sz e = 1) (h0 : 0 < nt) {z : U} {ys : List U} {w' : World} {tm : Array Value} (hts : tm.size = nt) (ht0 : tm.getD 0 undef = ι 1)
    (hO : ∀ g, blkOf (ι 1) = some g → f.w0.heap.size ≤ g ∨ f.O g) (hk : Keep f.O f.w0 w') {cs : List Value} (hown : w'.ownsRow 0 e 1 (ι 1) ys.length cs) (hrep : ∀ V i, i < ys.length → Rep C V e (chunk cs 1 i) (U.nth ys i)) (hnil : ι 1 = .slice none 0 0 ↔ z.toB = true ∧ ys = []) :
    Sim C f ι (unpack ⟨nt, [(0, .ow 1 e)]⟩ ⟨[z], [ys]⟩) { tmps := tm, defers := [] } w' := by
  have hsto : (unpack ⟨nt, [(0, .ow 1 e)]⟩ ⟨[z], [ys]⟩).sto = fun i => bif Nat.beq i 1 then some (.arr e z.toB ys) else none := rfl
  have henv : (unpack ⟨nt, [(0, .ow 1 e)]⟩ ⟨[z], [ys]⟩).env = setl (List.replicate nt .junk) 0 (.ow 1 none) := rfl
  have h1s : (unpack ⟨nt, [(0, .ow 1 e)]⟩ ⟨[z], [ys]⟩).sto 1 = some (.arr e z.toB ys) := rfl
  have hs : ∀ id, id ≠ 1 → (unpack ⟨nt, [(0, .ow 1 e)]⟩ ⟨[z], [ys]⟩).sto id = none := fun id hid => by
    rw [hsto]; simp [nbeq, hid]
  have hlv : ∀ id, live (unpack ⟨nt, [(0, .ow 1 e)]⟩ ⟨[z], [ys]⟩).sto id → id = 1 := fun id hl => by
    by_cases hid : id = 1
    · exact hid
    · unfold live at hl; rw [hs id hid] at hl; exact hl.elim
  refine ⟨fun t => ?_, ?_, fun id => ?_, fun id id' g a b _ _ => (hlv id a).trans (hlv id' b).symm, fun id g a b => by rw [hlv id a] at b; exact hO g b, hk, fun k o h => (hkp k o h).elim, trivial⟩
  · rw [henv, look_setl]
    by_cases ht : t = 0
    · subst ht
      rw [if_pos rfl, List.length_replicate, if_pos h0]
      show RepOw C ι (unpack ⟨nt, [(0, .ow 1 e)]⟩ ⟨[z], [ys]⟩).sto 1 none (tmOf { tmps := tm, defers := [] } 0)
      unfold RepOw
      rw [h1s]
      exact ht0
    · rw [if_neg ht, look_junks]; trivial
  · rw [henv, length_setl, List.length_replicate]; exact hts.symm
  · unfold BlkOk
    by_cases hid : id = 1
    · subst hid
      rw [h1s]
      exact ⟨cs, by rw [h1]; exact hown, fun i hi => by rw [h1]; exact hrep _ i hi, hnil, ty, hte⟩
    · rw [hs id hid]; trivial
theorem int_cells {V : View} {e : Nat} (he : C.te e = some (.int .i64)) {xs : List U} {cs : List Value} (hl : cs.length = xs.length) (h : ∀ i, i < xs.length → Rep C V e (chunk cs 1 i) (U.nth xs i)) : cs = xs.map fun u => .int .i64 u.toI := by
  apply List.ext_getElem
  · simp [hl]
  · intro i h1 h2
    have h2 : i < xs.length := by simpa using h2
    have := h i h2
    have e1 : chunk cs 1 i = [cs[i]] := by
      unfold chunk
      rw [Nat.mul_one, List.drop_eq_getElem_cons h1]; rfl
    have e2 : U.nth xs i = xs[i] := by rw [nth_get]; simp [h2]
    rw [e1, e2] at this
    rw [List.getElem_map]
    generalize hx : [cs[i]] = l at this
    cases this with
    | @int _ k _ h =>
      rw [h] at he
      cases he
      exact List.head_eq_of_cons_eq hx
    | bool h => rw [h] at he; cases he
    | str h => rw [h] at he; cases he
    | nil h => rw [h] at he; cases he
    | sl cs h => rw [h] at he; cases he
    | st cs h => rw [h] at he; cases he
    | ptr cs h => rw [h] at he; cases he
    | fn ad cs h => rw [h] at he; cases he
theorem cells_int {e : Nat} (he : C.te e = some (.int .i64)) (ys : List U) (V : View) (i : Nat) (hi : i < ys.length) : Rep C V e (chunk (ys.map fun u => Value.int .i64 u.toI) 1 i) (U.nth ys i) := by
  have e1 : chunk (ys.map fun u => Value.int .i64 u.toI) 1 i = [Value.int .i64 ys[i].toI] := by
    unfold chunk
    rw [Nat.mul_one, List.drop_eq_getElem_cons (by simpa using hi)]
    simp
  have e2 : U.nth ys i = ys[i] := by rw [nth_get]; simp [hi]
  rw [e1, e2]
  exact .int he
theorem enum_nth (xs : List U) : (List.finRange xs.length).map (fun i : Fin xs.length => U.nth xs i) = xs := by
  apply List.ext_getElem
  · simp
  · intro i h1 h2
    simp [nth_get, h2]
theorem total_ntrans {α : Type} {lt : α → α → Bool} (trans : ∀ x y z, lt x y = true → lt y z = true → lt x z = true) (total : ∀ x y, lt x y = false → lt y x = false → x = y) (x y z : α) (h1 : lt x y = false) (h2 : lt y z = false) : lt x z = false := by
  cases h : lt x z with
  | false => rfl
  | true =>
    cases h3 : lt y x with
    | false => have := total x y h1 h3; subst this; rw [h] at h2; cases h2
    | true => have := trans y x z h3 h; rw [this] at h2; cases h2
theorem sort_spec (ok : CtxOk P C) (fok : FnOk P C) (hpr : ∀ g fi, C.fn g = some fi → C.prim g = none) {ρ : Ren} (L : SlLaysF.n6 P ρ) {g e tf nt : Nat} {fi : Fn} (hg : ρ.f 6 = g) (eg : ∀ args w, (callFunc g args).run P w = .ok (.enter g args) w) (hno : C.fn g = none) (hxf : C.xfn g = some fi)
    (hx : fi.xt = some (⟨nt, [(0, .ow 1 e), (1, .fn tf)]⟩, ⟨nt, [(0, .ow 1 e)]⟩)) (hn : fi.ntmps = nt) (h2 : 2 ≤ nt) (hps : fi.params.length + fi.caps.length = 2) (hrt : fi.rts = []) (he : C.te e = some (.int .i64)) (htf : C.te tf = some (.fn [e, e] e))
    {F : Nat → List U → Option U} (hF : ∀ g us r, F g us = some r → Spec P C g us r) {us : List U} {r : U} (h : sortF F us = some r) : Spec P C g us r := by
  unfold sortF at h
  split at h
  case isFalse => cases h
  rename_i S
  refine .inr ⟨hno, fi, hxf, ?_⟩
  intro ti tu ht f vs ι hf hkp hvl s
  rw [hx] at ht
  have ht := Option.some.inj ht
  obtain ⟨rfl, rfl⟩ := Prod.mk.inj ht
  rw [hps] at hvl
  rw [hn] at s
  match vs, hvl with
  | [v0, v1], _ =>
    have hsz : C.sz e = 1 := ok.one e _ he (by simp)
    generalize hz : U.nth (decJ us).us 0 = z at h
    generalize hxs : srtX us = xs at h S
    generalize hcc : srtC us = c at h S
    have hsto : (unpack ⟨nt, [(0, .ow 1 e), (1, .fn tf)]⟩ (decJ us)).sto = fun i => bif Nat.beq i 1 then some (.arr e z.toB xs) else none := by rw [← hz, ← hxs]; rfl
    have henv : (unpack ⟨nt, [(0, .ow 1 e), (1, .fn tf)]⟩ (decJ us)).env = setl (setl (List.replicate nt .junk) 0 (.ow 1 none)) 1 (.fn tf c) := by rw [← hcc]; rfl
    have h1s : (unpack ⟨nt, [(0, .ow 1 e), (1, .fn tf)]⟩ (decJ us)).sto 1 = some (.arr e z.toB xs) := by rw [hsto]; rfl
    generalize hst : unpack ⟨nt, [(0, .ow 1 e), (1, .fn tf)]⟩ (decJ us) = st at s hsto henv h1s
    have e0 := s.env 0
    have e1 := s.env 1
    rw [henv, look_setl, if_neg (by omega), look_setl, if_pos rfl, List.length_replicate, if_pos (by omega)] at e0
    rw [henv, look_setl, if_pos rfl, length_setl, List.length_replicate, if_pos (by omega)] at e1
    have t0 : tmOf (act0 nt [v0, v1]) 0 = v0 := by simp [tmOf, act0, Array.getD]
    have t1 : tmOf (act0 nt [v0, v1]) 1 = v1 := by simp [tmOf, act0, Array.getD]; intro hh; omega
    rw [t0] at e0
    rw [t1] at e1
    have q1 : RepA C (view f ι st.sto f.w0) ι st.sto (.fn tf c) v1 := e1
    have q0 : RepOw C ι st.sto 1 none v0 := e0
    clear e0 e1
    unfold RepOw at q0
    rw [h1s] at q0
    have hv0 : v0 = ι 1 := q0
    have hb := s.blk 1
    unfold BlkOk at hb
    rw [h1s] at hb
    obtain ⟨cs, b1, b2, b3, _⟩ := hb
    rw [hsz] at b1 b2
    have hlive : live st.sto 1 := by unfold live; rw [h1s]; trivial
    have hrng := fun g h => s.rng 1 g hlive h
    have hVs := view_sub hf s.keep (ι := ι) (sto := st.sto)
    have hhid : ∀ b o, blkOf (ι 1) = some b → view f ι st.sto f.w0 b o = none := fun b o h => by unfold view; rw [if_pos ⟨1, hlive, h⟩]
    obtain ⟨fi2, ad, ccs, c1, c2, c3, c4, c5, c6, c7, c8, hv1⟩ := rep_fn htf q1.2
    have hcs := int_cells he (by have := b1.1; omega) b2
    have hr := Option.some.inj h
    have hts : (act0 nt [v0, v1]).tmps.size = nt := by simp [act0]; omega
    have ht0 : (act0 nt [v0, v1]).tmps.getD 0 undef = ι 1 := t0.trans hv0
    -- what is to be shown of the world behind the call
    have fin : ∀ (w' : World) (ys : List U), Keep f.O f.w0 w' → ys = (xs.mergeSort fun x y => !ltF F c y x) → w'.ownsRow 0 e 1 (ι 1) ys.length (ys.map fun u => .int .i64 u.toI) →
        ∃ (ι' : Own) (tm : Array Value), (∀ j ∈ [(0, Sh.ow 1 e)].map (·.1), tm.getD j undef = [v0, v1].getD j undef) ∧ Sim C f ι' (unpack ⟨nt, [(0, .ow 1 e)]⟩ (decR r)) { tmps := tm, defers := [] } w' ∧ XRes C (view f ι' (unpack ⟨nt, [(0, .ow 1 e)]⟩ (decR r)).sto w') fi.rts (r.get 0) (.tuple #[]) := by
      intro w' ys hk hys hown
      have hlen : ys.length = xs.length := by rw [hys, List.length_mergeSort]
      have hd : decR r = ⟨[z], [ys]⟩ := by
        rw [← hr, ← hys]
        unfold decR
        show JP.mk (U.ofL false [z]).toL ((U.ofL false [U.ofL false ys]).toL.map U.toL) = _
        rw [toL_ofL, toL_ofL, List.map_cons, List.map_nil, toL_ofL]
      refine ⟨ι, (act0 nt [v0, v1]).tmps, fun j hj => ?_, ?_, ?_⟩
      · have : j = 0 := by simpa using hj
        subst this
        exact t0
      · rw [hd]
        refine sort_post f hkp he hsz (by omega) hts ht0 hrng hk hown (fun V i hi => cells_int he ys V i hi) ?_
        rw [b3]
        constructor
        · rintro ⟨k1, k2⟩; exact ⟨k1, List.eq_nil_of_length_eq_zero (by rw [hlen, k2]; rfl)⟩
        · rintro ⟨k1, k2⟩; exact ⟨k1, List.eq_nil_of_length_eq_zero (by rw [← hlen, k2]; rfl)⟩
      · rw [hrt]
        exact ⟨[], rfl, trivial⟩
    have hown0 := b1
    rw [hcs] at hown0
    refine .inl ⟨eg _ _, ?_⟩
    by_cases hpos : xs.length = 0
    · have hnil : xs = [] := List.eq_nil_of_length_eq_zero hpos
      have hv : ∃ p cap, v0 = .slice p 0 cap := by
        rw [hv0]
        rcases b1.2 with ⟨k, _⟩ | ⟨g1, cap, cur, k, _⟩
        · exact ⟨none, 0, k⟩
        · exact ⟨_, cap, by rw [k, hpos]⟩
      obtain ⟨p, cap, hv⟩ := hv
      have hS := AnyF.slices_SortFunc_none (P := P) (ρ := ρ) { L with } p cap (.func (.func c.fid) #[] ((List.range fi2.caps.length).map fun j => .pointer (some (ad j))).toArray) f.w0
      rw [hg, ← hv, ← hv1] at hS
      refine hS.mono ?_
      rintro e' w' ⟨rfl, rfl⟩
      exact fin _ [] s.keep (by rw [hnil]; simp) (by rw [hnil] at hown0; exact hown0)
    · rcases b1.2 with ⟨_, k⟩ | ⟨g1, cap, cur, k, k0, k1, k2, k3, k4, k5⟩
      · exact absurd k hpos
      · have hgl : g1 < f.w0.heap.size := (Array.getElem?_eq_some_iff.1 k1).1
        have hgO : f.O g1 := by
          rcases hrng g1 (by rw [k]; rfl) with h | h
          · omega
          · exact h
        haveI : Inhabited (Fin xs.length) := ⟨⟨0, by omega⟩⟩
        have hDl : (List.finRange xs.length).length = xs.length := List.length_finRange
        have hDs : (List.finRange xs.length).toArray.size = xs.length := by simp
        have hDg : ∀ j (hj : j < xs.length), (List.finRange xs.length).toArray[j]! = ⟨j, hj⟩ := fun j hj => by
          rw [getElem!_pos _ j (by simpa using hj)]
          simp
        obtain ⟨enc, henc⟩ : ∃ enc : Fin xs.length → Value, ∀ i : Fin xs.length, enc i = Value.int .i64 (U.nth xs i).toI := ⟨_, fun _ => rfl⟩
        obtain ⟨cf, hcf⟩ : ∃ cf : Fin xs.length → Fin xs.length → Int, ∀ i j : Fin xs.length, cf i j = cmpF F c (U.nth xs i) (U.nth xs j) := ⟨_, fun _ _ => rfl⟩
        have hlt : ∀ i j : Fin xs.length, ltOf cf i j = ltF F c (U.nth xs i) (U.nth xs j) := fun i j => by unfold ltOf ltF; rw [hcf]
        have hH : Go.Sort.Holds enc f.w0 g1 0 (List.finRange xs.length).toArray := by
          intro j hj
          rw [hDs] at hj
          rw [hDg j hj, henc]
          have hcur : cur[0 + j]? = some (Value.int .i64 (U.nth xs j).toI) := by
            have q : (cur.toList.take (xs.length * 1))[j]? = some (Value.int .i64 (U.nth xs j).toI) := by
              rw [k5, hcs, List.getElem?_map, List.getElem?_eq_getElem hj, nth_get]
              simp [hj]
            rw [List.getElem?_take] at q
            split at q
            · simpa using q
            · cases q
          refine ⟨?_, ?_⟩
          · unfold World.cell?
            simp only [k1]
            exact hcur
          · unfold World.frozen?
            simp only [k1]
            simp
        have hcmp : CmpLays1 P c.fid ((List.range fi2.caps.length).map fun j => Value.pointer (some (ad j))).toArray enc cf g1 0 xs.length f.w0 := by
          intro m os dk hdk x y
          obtain ⟨rv, hrv⟩ := Option.isSome_iff_exists.1 (S.some x y x.2 y.2)
          have hcv : cf x y = rv.toI := by rw [hcf]; unfold cmpF; rw [hrv]; rfl
          rw [henc, henc, hcv]
          refine cmp_call (tf := tf) fok hpr he c1 c2 c3 c4 c5 c6 c7 c8 (fun b o v hbo => ?_) (hF _ _ _ hrv)
          have hne : b ≠ g1 := fun hb => by
            have := hhid b o (by rw [k, hb]; rfl)
            rw [this] at hbo; cases hbo
          have h0 : f.w0.cell? ⟨b, o, none⟩ = some v := hVs b o v hbo
          have hlt : b < f.w0.heap.size := by
            rcases Nat.lt_or_ge b f.w0.heap.size with h | h
            · exact h
            · unfold World.cell? at h0
              simp only [Array.getElem?_eq_none h] at h0
              cases h0
          show (sortWorld enc f.w0 g1 0 m dk os).cell? ⟨b, o, none⟩ = some v
          unfold sortWorld
          rw [cell?_grow _ _ _ (by rw [Go.Sort.size_putRow]; exact hlt), cell?_putRow_other _ _ _ _ _ _ (.inl hne)]
          exact h0
        have strans : ∀ x y z, ltOf cf x y = true → ltOf cf y z = true → ltOf cf x z = true := fun x y z => by rw [hlt, hlt, hlt]; exact S.trans x y z x.2 y.2 z.2
        have stot : ∀ x y, ltOf cf x y = false → ltOf cf y x = false → x = y := fun x y h1 h2 => by rw [hlt] at h1 h2; exact Fin.ext (S.total x y x.2 y.2 h1 h2)
        have hS := Any.slices_SortFunc_total (P := P) (ρ := ρ) L enc (fun x => by rw [henc]; rfl) cf ⟨fun x => by rw [hlt]; exact S.irr x x.2, strans, total_ntrans strans stot⟩
          c.fid ((List.range fi2.caps.length).map fun j => Value.pointer (some (ad j))).toArray g1 0 cap (List.finRange xs.length).toArray f.w0 (fn_enters fok hpr c1) (by rw [hDs]; exact hcmp) hH hgl (by rw [hDs]; exact S.short) stot
        rw [hg, hDs, ← k, ← hv0, ← hv1] at hS
        refine hS.mono ?_
        rintro e' w' ⟨rfl, m, os, rfl⟩
        have hmap := List.map_mergeSort (r := fun x y : Fin xs.length => !(ltOf cf) y x) (s := fun x y => !ltF F c y x) (f := fun i : Fin xs.length => U.nth xs i) (l := List.finRange xs.length) (fun a _ b _ => by rw [hlt])
        rw [enum_nth] at hmap
        have hdl2 : ((List.finRange xs.length).mergeSort fun x y : Fin xs.length => !(ltOf cf) y x).length = xs.length := by rw [List.length_mergeSort, hDl]
        have htl : (List.finRange xs.length).toArray.toList = List.finRange xs.length := rfl
        rw [htl]
        generalize ((List.finRange xs.length).mergeSort fun x y : Fin xs.length => !(ltOf cf) y x) = dd at hmap hdl2
        have hddl := hdl2
        refine fin _ (dd.map fun i : Fin xs.length => U.nth xs i) ?_ hmap ?_
        · unfold sortWorld
          refine ⟨rfl, rfl, rfl, ?_, ?_, fun b hb hO => ?_⟩
          · rw [size_grow, Go.Sort.size_putRow]; show f.w0.heap.size ≤ f.w0.heap.size + _; omega
          · show f.w0.drawn ≤ f.w0.drawn + m; omega
          · show ((f.w0.heap.modify g1 _) ++ os)[b]? = _
            rw [Array.getElem?_append_left (by simpa using hb), Array.getElem?_modify, if_neg (by rintro rfl; exact hO hgO)]
        · have hyl : (dd.map fun i : Fin xs.length => U.nth xs i).length = xs.length := by rw [List.length_map, hddl]
          have hcs1 : cur.size = cap := by rw [k4, Nat.mul_one]
          rw [k]
          refine ⟨by simp, .inr ⟨g1, cap, putCells enc 0 dd.toArray cur, by rw [hyl], Nat.zero_le _, ?_, by rw [hyl]; exact k2, k3, by simpa [putCells] using k4, ?_⟩⟩
          · show ((f.w0.heap.modify g1 _) ++ os)[g1]? = _
            rw [Array.getElem?_append_left (by simpa using hgl), Array.getElem?_modify, if_pos rfl, k1]
            rfl
          · apply List.ext_getElem?
            intro i
            rw [hyl, Nat.mul_one, List.getElem?_take, List.map_map, List.getElem?_map]
            by_cases hi : i < xs.length
            · rw [if_pos hi, Array.getElem?_toList, putCells, Array.getElem?_mapIdx, Array.getElem?_eq_getElem (by omega), List.getElem?_eq_getElem (by omega)]
              simp only [Option.map_some]
              rw [if_pos ⟨Nat.zero_le _, by simp; omega⟩]
              congr 1
              rw [Nat.sub_zero, getElem!_pos _ i (by simp; omega), henc]
              simp
            · rw [if_neg hi, List.getElem?_eq_none (by omega)]; rfl
end Go.Ab
