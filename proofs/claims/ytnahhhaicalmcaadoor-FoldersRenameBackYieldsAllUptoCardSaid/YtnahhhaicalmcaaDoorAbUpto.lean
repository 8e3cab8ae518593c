/- From a row's arguments of bounded bulk to data. -/
import Derived.Test.YtnahhhaicalmcaaDoorAbRow
set_option linter.unusedVariables false
set_option linter.unusedSimpArgs false
namespace Go.Ab
open Go.RowKit
section
variable {C : Ctx} {P : Program} {H : Type} {enc : TypeId × Value → H} {w : World} {sp : Nat → Bool} {held : Bool}
/-- what is known of data that come in from without, where their bulk is bounded -/
inductive WfB (C : Ctx) (B : Nat) : Nat → U → Prop
  | int {t k u} (h : C.te t = some (.int k)) (hw : (Lit.int k u.toI).wf = true) : WfB C B t u
  | bool {t u} (h : C.te t = some .bool) : WfB C B t u
  | str {t u} (h : C.te t = some .str) (hw : u.toS.length ≤ B) : WfB C B t u
  | sl {t e u} (h : C.te t = some (.sl e)) (hn : u.isNil = true → u.len = 0) (hl : u.len ≤ B) (he : ∀ i, i < u.len → WfB C B e (u.get i)) : WfB C B t u
  | st {t fs u} (h : C.te t = some (.st fs)) (hf : ∀ j, j < fs.length → WfB C B (nthN fs j) (u.get j)) : WfB C B t u
/-- a measure of what comes in -/
structure Bulk (bulk : DataW H → Nat) : Prop where
  str : ∀ b, b.length ≤ bulk (.lit (.string b))
  len : ∀ es sp, es.length ≤ bulk (.slice es sp)
  mem : ∀ es sp, ∀ x ∈ es, bulk x ≤ bulk (.slice es sp)
  agg : ∀ ps, ∀ x ∈ ps, bulk x ≤ bulk (.agg ps)
theorem trod_repB (ok : CtxOk P C) {bulk : DataW H → Nat} (hb : Bulk bulk) {B : Nat} :
    ∀ (fuel d t : Nat) (cs : List Value) (x : DataW H × List MemPlace), plainT C d t = true → DataW.trod enc P w 0 sp held fuel t cs = some x → bulk x.1 ≤ B →
    ∃ u, Rep C (World.view w) t cs u ∧ WfB C B t u := by
  intro fuel
  induction fuel with
  | zero => intro d t cs x _ h; simp [DataW.trod] at h
  | succ fuel ih =>
    intro d t cs x hd h hw
    cases d with
    | zero => cases hd
    | succ d =>
      simp only [plainT] at hd
      cases ht : C.te t with
      | none => rw [ht] at hd; cases hd
      | some ty =>
        rw [ht] at hd
        have hu := ok.und t _ ht
        cases ty with
        | int k =>
          simp only at hu
          obtain ⟨n, rfl, rfl, hwf⟩ := DataW.trod_int hu h
          exact ⟨.I n, .int (u := .I n) ht, .int ht hwf⟩
        | bool =>
          simp only at hu
          obtain ⟨b, rfl, rfl⟩ := DataW.trod_bool hu h
          exact ⟨.B b, .bool (u := .B b) ht, .bool ht⟩
        | str =>
          simp only at hu
          obtain ⟨s, rfl, rfl, hs⟩ := DataW.trod_string hu h
          have e : str s.data.toList = s := by
            cases s with
            | mk a => rfl
          refine ⟨.S s.data.toList, ?_, .str ht ?_⟩
          · have := Rep.str (C := C) (H := World.view w) (t := t) (u := .S s.data.toList) ht
            simpa [U.toS, e] using this
          · exact Nat.le_trans (hb.str s.data.toList) hw
        | sl e =>
          simp only at hu
          obtain ⟨ty', hte, hnp⟩ := ok.elem t e ht
          obtain ⟨inf, hinf, hsz⟩ := ok.size e ty' hte hnp
          have hco : P.cellsOf e = C.sz e := by simp [Program.cellsOf, hinf, hsz]
          rcases DataW.trod_slice hu h with ⟨rfl, rfl⟩ | ⟨a, len, cap, elems, rest, n, hn, rfl, rfl, _, hl, hm, hlen, hel, _, _⟩
          · exact ⟨.nil, .nil ht rfl rfl, .sl ht (fun _ => rfl) (Nat.zero_le _) (fun i hi => by simp [U.nil, U.len] at hi)⟩
          · cases hn
            have key : ∀ i, i < len → ∃ cs' : List Value, ∃ u, (w.cells? 0 (a.add (i * P.cellsOf e)) (P.cellsOf e) = some cs') ∧ Rep C (World.view w) e cs' u ∧ WfB C B e u := by
              intro i hi
              have h1 := hel i hi
              rw [List.getElem?_eq_getElem (by omega), Option.bind_eq_some_iff] at h1
              obtain ⟨cs', h2, h3⟩ := h1
              obtain ⟨u, h4, h5⟩ := ih d e cs' _ hd h3 (Nat.le_trans (hb.mem _ _ _ (List.mem_map.2 ⟨_, List.getElem_mem (by omega), rfl⟩)) hw)
              exact ⟨cs', u, h2, h4, h5⟩
            obtain ⟨cf, hcf⟩ := choice1 key
            obtain ⟨uf, huf⟩ := choice1 hcf
            refine ⟨.N false len uf, ?_, .sl ht (fun e => by cases e) ?_ (fun i hi => (huf i hi).2.2)⟩
            · refine Rep.sl (u := .N false len uf) cf ht rfl hl (fun i hi => ?_) (fun i hi => (huf i hi).2.1)
              obtain ⟨_, h6, h7⟩ := World.cells?_some (huf i hi).1
              rw [hco] at h6 h7
              have hcell : ∀ j v, (cf i)[j]? = some v → w.cell? ((a.add (i * C.sz e)).add j) = some v := fun j v hv => by
                have hj : j < C.sz e := by rw [← h6]; exact (List.getElem?_eq_some_iff.1 hv).1
                rw [h7 j hj]; exact hv
              have hspot : cf i ≠ [] → (a.add (i * C.sz e)).spot = none := by
                intro hne
                cases hc : cf i with
                | nil => exact (hne hc).elim
                | cons v l =>
                  have := hcell 0 v (by rw [hc]; rfl)
                  have h8 := World.cell?_spot this
                  simpa [Addr.add] using h8
              refine ⟨hspot, fun j v hv => ?_⟩
              have := hcell j v hv
              have hs0 := hspot (fun e => by rw [e] at hv; simp at hv)
              generalize a.add (i * C.sz e) = b at this hs0
              obtain ⟨b1, b2, b3⟩ := b
              simp only at hs0
              subst hs0
              rw [add_eq] at this
              exact this
            · show len ≤ B
              have h1 := hb.len (elems.map (·.1)) (rest.map (·.1))
              rw [List.length_map] at h1
              have h2 := Nat.le_trans h1 hw
              omega
        | st fs =>
          simp only at hu
          obtain ⟨fds, hfd, hfs, hoff, _, _⟩ := hu
          obtain ⟨xs, n, hn, rfl, hcl, hxl, hx⟩ := DataW.trod_struct hfd h
          cases hn
          obtain ⟨inf, hinf, hsz⟩ := ok.size t _ ht (by simp)
          have hco : P.cellsOf t = C.sz t := by simp [Program.cellsOf, hinf, hsz]
          have hlf : fs.length = fds.size := by rw [← hfs]; simp
          have key : ∀ j, j < fs.length → ∃ u, Rep C (World.view w) (nthN fs j) ((cs.drop ((fs.take j).map C.sz).sum).take (C.sz (nthN fs j))) u ∧ WfB C B (nthN fs j) u := by
            intro j hj
            have hjf : j < fds.size := by omega
            have hfj : fds[j]? = some fds[j] := Array.getElem?_eq_getElem hjf
            have h1 := hx j _ hfj
            have hty : fds[j].type = nthN fs j := by
              rw [nthN_get hj]
              have : (fds.toList.map (·.type))[j]'(by simpa using hjf) = fs[j] := by congr 1
              simpa using this
            have ho := (hoff j _ hfj).1
            obtain ⟨ty', hte, hnp⟩ := ok.fields t fs (nthN fs j) ht (nthN_mem hj)
            obtain ⟨inf', hinf', hsz'⟩ := ok.size (nthN fs j) ty' hte hnp
            have hco' : P.cellsOf (nthN fs j) = C.sz (nthN fs j) := by simp [Program.cellsOf, hinf', hsz']
            rw [hty, ho, hco', List.getElem?_eq_getElem (by omega)] at h1
            exact ih d _ _ _ (List.all_eq_true.1 hd _ (nthN_mem hj)) h1 (Nat.le_trans (hb.agg _ _ (List.mem_map.2 ⟨_, List.getElem_mem (by omega), rfl⟩)) hw)
          obtain ⟨uf, huf⟩ := choice1 key
          refine ⟨.N false fs.length uf, Rep.st (u := .N false fs.length uf) (fun j => (cs.drop ((fs.take j).map C.sz).sum).take (C.sz (nthN fs j))) ht (fun j hj => (huf j hj).1) ?_, .st ht (fun j hj => (huf j hj).2)⟩
          -- the cells are those of the fields
          rw [hco, (ok.sum t fs ht).1] at hcl
          have seg : ∀ (fs : List Nat) (cs : List Value), cs.length = (fs.map C.sz).sum → cs = (List.range fs.length).flatMap fun j => (cs.drop ((fs.take j).map C.sz).sum).take (C.sz (nthN fs j)) := by
            intro fs
            induction fs with
            | nil => intro cs h; simp at h; subst h; rfl
            | cons f fs ih =>
              intro cs h
              simp only [List.map_cons, List.sum_cons] at h
              rw [List.length_cons, List.range_succ_eq_map, List.flatMap_cons, List.flatMap_map]
              simp only [List.take_zero, List.map_nil, List.sum_nil, List.drop_zero, nthN]
              conv => lhs; rw [← List.take_append_drop (C.sz f) cs]
              congr 1
              rw [ih (cs.drop (C.sz f)) (by simp; omega)]
              congr 1
              funext j
              simp [Nat.add_comm, nthN, List.drop_drop]
          exact seg fs cs hcl
        | _ => cases hd
/-- a row's arguments are data, of bounded bulk -/
theorem row_argsB (ok : CtxOk P C) {bulk : DataW H → Nat} (hb : Bulk bulk) {B : Nat} {r : Reach} {base : Nat} :
    ∀ {ts : List Nat} {vs : List Value} {ds : List (DataW H)} {ps : List MemPlace}, ts.all (plainT C 20) = true → DataW.TrodAll enc P w 0 sp held ts vs ds ps → (∀ d ∈ ds, bulk d ≤ B) →
    (∀ (j : Nat) t v, ts[j]? = some t → vs[j]? = some v → Value.okWide P w r base t v) →
    ∃ us, us.length = ts.length ∧ ArgsL C ⟨World.view w, w, fun _ => False, fun _ _ => False⟩ [] ts us vs ∧ (∀ j, j < ts.length → WfB C B (nthN ts j) (U.nth us j))
  | [], vs, ds, ps, _, h, _, _ => by
    obtain ⟨rfl, rfl, rfl⟩ := ChangeShapes.trodAll_nil h
    exact ⟨[], rfl, trivial, fun j hj => by simp at hj⟩
  | t :: ts, vs, ds, ps, hp, h, hw, hv => by
    obtain ⟨v, vs', d, ds', p, q, rfl, rfl, rfl, h1, h2⟩ := ChangeShapes.trodAll_cons h
    simp only [List.all_cons, Bool.and_eq_true] at hp
    obtain ⟨fuel, hf⟩ := h1
    obtain ⟨u, e1, e2⟩ := trod_repB ok hb fuel 20 t _ _ hp.1 hf (hw d (List.mem_cons_self ..))
    obtain ⟨us, k1, k2, k3⟩ := row_argsB ok hb hp.2 h2 (fun n hn => hw n (List.mem_cons_of_mem _ hn)) (fun j t' v' a b => hv (j + 1) t' v' (by simpa using a) (by simpa using b))
    refine ⟨u :: us, by simp [k1], ⟨⟨_, okWide_isVal ok hp.1 (hv 0 t v rfl rfl), e1⟩, k2⟩, fun j hj => ?_⟩
    cases j with
    | zero => exact e2
    | succ j => simpa [nthN, U.nth] using k3 j (by simpa using hj)
theorem wfB_str {B t : Nat} {u : U} (ht : C.te t = some .str) (h : WfB C B t u) : u.toS.length ≤ B := by
  cases h with
  | str h hw => exact hw
  | int h => rw [h] at ht; cases ht
  | bool h => rw [h] at ht; cases ht
  | sl h => rw [h] at ht; cases ht
  | st h => rw [h] at ht; cases ht
theorem wfB_int {B t : Nat} {k : IntKind} {u : U} (ht : C.te t = some (.int k)) (h : WfB C B t u) : (Lit.int k u.toI).wf = true := by
  cases h with
  | int h hw => rw [h] at ht; cases ht; exact hw
  | str h => rw [h] at ht; cases ht
  | bool h => rw [h] at ht; cases ht
  | sl h => rw [h] at ht; cases ht
  | st h => rw [h] at ht; cases ht
theorem wfB_sl {B t e : Nat} {u : U} (ht : C.te t = some (.sl e)) (h : WfB C B t u) : (u.isNil = true → u.len = 0) ∧ u.len ≤ B ∧ ∀ i, i < u.len → WfB C B e (u.get i) := by
  cases h with
  | sl h hn hl he => rw [h] at ht; cases ht; exact ⟨hn, hl, he⟩
  | int h => rw [h] at ht; cases ht
  | bool h => rw [h] at ht; cases ht
  | str h => rw [h] at ht; cases ht
  | st h => rw [h] at ht; cases ht
theorem wfB_st {B t : Nat} {fs : List Nat} {u : U} (ht : C.te t = some (.st fs)) (h : WfB C B t u) : ∀ j, j < fs.length → WfB C B (nthN fs j) (u.get j) := by
  cases h with
  | st h hf => rw [h] at ht; cases ht; exact hf
  | int h => rw [h] at ht; cases ht
  | bool h => rw [h] at ht; cases ht
  | str h => rw [h] at ht; cases ht
  | sl h => rw [h] at ht; cases ht
end
end Go.Ab
