/- From a row's arguments to data, and from a call's result to the row's answer. -/
import Derived.Test.YtnahhhaicalmcaaDoorAbTab
import Derived.WalkKit
import Derived.ProofKit
import Derived.OpenShut
import Derived.ShutString
import Derived.ChangeOld
import Derived.Below
import Derived.SizedLaws
set_option linter.unusedVariables false
set_option linter.unusedSimpArgs false
namespace Go.Ab
open Go.RowKit

/-- plain data -/
def plainT (C : Ctx) : Nat → Nat → Bool
  | 0, _ => false
  | d + 1, t => match C.te t with
    | some (.int _) | some .bool | some .str => true
    | some (.sl e) => plainT C d e
    | some (.st fs) => fs.all (plainT C d)
    | _ => false
/-- what is known of data that come in from without -/
inductive WfL (C : Ctx) (lw : Nat → Nat) : Nat → U → Prop
  | int {t k u} (h : C.te t = some (.int k)) (hw : (Lit.int k u.toI).wf = true) : WfL C lw t u
  | bool {t u} (h : C.te t = some .bool) : WfL C lw t u
  | str {t u} (h : C.te t = some .str) (hw : u.toS.length ≤ 140737488351232) : WfL C lw t u
  | sl {t e u} (h : C.te t = some (.sl e)) (hn : u.isNil = true → u.len = 0) (hl : u.len ≤ lw e) (he : ∀ i, i < u.len → WfL C lw e (u.get i)) : WfL C lw t u
  | st {t fs u} (h : C.te t = some (.st fs)) (hf : ∀ j, j < fs.length → WfL C lw (nthN fs j) (u.get j)) : WfL C lw t u
abbrev Wf (C : Ctx) := WfL C C.lim

section
variable {C : Ctx} {P : Program} {H : Type} {enc : TypeId × Value → H} {w : World} {sp : Nat → Bool} {held : Bool}
theorem choice1 {α : Type} [Inhabited α] {n : Nat} {p : Nat → α → Prop} (h : ∀ j, j < n → ∃ a, p j a) : ∃ f : Nat → α, ∀ j, j < n → p j (f j) := by
  classical
  refine ⟨fun j => if hj : j < n then Classical.choose (h j hj) else default, fun j hj => ?_⟩
  simp only [dif_pos hj]
  exact Classical.choose_spec (h j hj)
instance : Inhabited U := ⟨.I 0⟩
theorem weightsAll_mem {e : Nat} : ∀ {l : List (DataW H)} {i : Nat} {d : DataW H} {n : Nat}, l[i]? = some d → n ∈ DataW.weights P e d → n ∈ DataW.weightsAll P e l
  | [], _, _, _, h, _ => by simp at h
  | x :: l, 0, d, n, h, hn => by simp at h; subst h; simp [DataW.weightsAll, hn]
  | x :: l, i + 1, d, n, h, hn => by
    simp at h
    simp only [DataW.weightsAll, List.mem_append]
    exact .inr (weightsAll_mem h hn)

theorem trod_rep (ok : CtxOk P C) {lw : Nat → Nat} (hlim : ∀ e n, (∃ ty, C.te e = some ty ∧ ∀ e', ty ≠ .ptr e') → n * P.bytesOf e ≤ reachBytes → n ≤ lw e) :
    ∀ (fuel d t : Nat) (cs : List Value) (x : DataW H × List MemPlace), plainT C d t = true → DataW.trod enc P w 0 sp held fuel t cs = some x → (∀ n ∈ DataW.weights P t x.1, n ≤ reachBytes) →
    ∃ u, Rep C (World.view w) t cs u ∧ WfL C lw t u := by
  intro fuel
  induction fuel with
  | zero => intro d t cs x _ h; simp [DataW.trod] at h
  | succ fuel ih =>
    intro d t cs x hd h hw
    cases d with
    | zero => cases hd
    | succ d =>
      simp only [plainT] at hd
      cases ht : C.te t with
      | none => rw [ht] at hd; cases hd
      | some ty =>
        rw [ht] at hd
        have hu := ok.und t _ ht
        cases ty with
        | int k =>
          simp only at hu
          obtain ⟨n, rfl, rfl, hwf⟩ := DataW.trod_int hu h
          exact ⟨.I n, .int (u := .I n) ht, .int ht hwf⟩
        | bool =>
          simp only at hu
          obtain ⟨b, rfl, rfl⟩ := DataW.trod_bool hu h
          exact ⟨.B b, .bool (u := .B b) ht, .bool ht⟩
        | str =>
          simp only at hu
          obtain ⟨s, rfl, rfl, hs⟩ := DataW.trod_string hu h
          have e : str s.data.toList = s := by
            cases s with
            | mk a => rfl
          refine ⟨.S s.data.toList, ?_, .str ht ?_⟩
          · have := Rep.str (C := C) (H := World.view w) (t := t) (u := .S s.data.toList) ht
            simpa [U.toS, e] using this
          · have := hw s.data.toList.length (by simp [DataW.weights])
            simpa [U.toS, reachBytes] using this
        | sl e =>
          simp only at hu
          obtain ⟨ty', hte, hnp⟩ := ok.elem t e ht
          obtain ⟨inf, hinf, hsz⟩ := ok.size e ty' hte hnp
          have hco : P.cellsOf e = C.sz e := by simp [Program.cellsOf, hinf, hsz]
          rcases DataW.trod_slice hu h with ⟨rfl, rfl⟩ | ⟨a, len, cap, elems, rest, n, hn, rfl, rfl, _, hl, hm, hlen, hel, _, _⟩
          · exact ⟨.nil, .nil ht rfl rfl, .sl ht (fun _ => rfl) (Nat.zero_le _) (fun i hi => by simp [U.nil, U.len] at hi)⟩
          · cases hn
            have key : ∀ i, i < len → ∃ cs' : List Value, ∃ u, (w.cells? 0 (a.add (i * P.cellsOf e)) (P.cellsOf e) = some cs') ∧ Rep C (World.view w) e cs' u ∧ WfL C lw e u := by
              intro i hi
              have h1 := hel i hi
              rw [List.getElem?_eq_getElem (by omega), Option.bind_eq_some_iff] at h1
              obtain ⟨cs', h2, h3⟩ := h1
              obtain ⟨u, h4, h5⟩ := ih d e cs' _ hd h3 (fun m hm => hw m (by
                simp only [DataW.weights, hu, List.mem_cons, List.mem_append]
                right; left
                exact weightsAll_mem (i := i) (by rw [List.getElem?_map, List.getElem?_eq_getElem (by omega)]; rfl) hm))
              exact ⟨cs', u, h2, h4, h5⟩
            obtain ⟨cf, hcf⟩ := choice1 key
            obtain ⟨uf, huf⟩ := choice1 hcf
            refine ⟨.N false len uf, ?_, .sl ht (fun e => by cases e) ?_ (fun i hi => (huf i hi).2.2)⟩
            · refine Rep.sl (u := .N false len uf) cf ht rfl hl (fun i hi => ?_) (fun i hi => (huf i hi).2.1)
              obtain ⟨_, h6, h7⟩ := World.cells?_some (huf i hi).1
              rw [hco] at h6 h7
              have hcell : ∀ j v, (cf i)[j]? = some v → w.cell? ((a.add (i * C.sz e)).add j) = some v := fun j v hv => by
                have hj : j < C.sz e := by rw [← h6]; exact (List.getElem?_eq_some_iff.1 hv).1
                rw [h7 j hj]; exact hv
              have hspot : cf i ≠ [] → (a.add (i * C.sz e)).spot = none := by
                intro hne
                cases hc : cf i with
                | nil => exact (hne hc).elim
                | cons v l =>
                  have := hcell 0 v (by rw [hc]; rfl)
                  have h8 := World.cell?_spot this
                  simpa [Addr.add] using h8
              refine ⟨hspot, fun j v hv => ?_⟩
              have := hcell j v hv
              have hs0 := hspot (fun e => by rw [e] at hv; simp at hv)
              generalize a.add (i * C.sz e) = b at this hs0
              obtain ⟨b1, b2, b3⟩ := b
              simp only at hs0
              subst hs0
              rw [add_eq] at this
              exact this
            · show len ≤ lw e
              refine Nat.le_trans (Nat.le_add_right len rest.length) (hlim e _ ⟨ty', hte, hnp⟩ ?_)
              refine hw _ ?_
              simp only [DataW.weights, hu, List.length_map, hlen]
              exact List.mem_cons_self
        | st fs =>
          simp only at hu
          obtain ⟨fds, hfd, hfs, hoff, _, _⟩ := hu
          obtain ⟨xs, n, hn, rfl, hcl, hxl, hx⟩ := DataW.trod_struct hfd h
          cases hn
          obtain ⟨inf, hinf, hsz⟩ := ok.size t _ ht (by simp)
          have hco : P.cellsOf t = C.sz t := by simp [Program.cellsOf, hinf, hsz]
          have hlf : fs.length = fds.size := by rw [← hfs]; simp
          have key : ∀ j, j < fs.length → ∃ u, Rep C (World.view w) (nthN fs j) ((cs.drop ((fs.take j).map C.sz).sum).take (C.sz (nthN fs j))) u ∧ WfL C lw (nthN fs j) u := by
            intro j hj
            have hjf : j < fds.size := by omega
            have hfj : fds[j]? = some fds[j] := Array.getElem?_eq_getElem hjf
            have h1 := hx j _ hfj
            have hty : fds[j].type = nthN fs j := by
              rw [nthN_get hj]
              have : (fds.toList.map (·.type))[j]'(by simpa using hjf) = fs[j] := by congr 1
              simpa using this
            have ho := (hoff j _ hfj).1
            obtain ⟨ty', hte, hnp⟩ := ok.fields t fs (nthN fs j) ht (nthN_mem hj)
            obtain ⟨inf', hinf', hsz'⟩ := ok.size (nthN fs j) ty' hte hnp
            have hco' : P.cellsOf (nthN fs j) = C.sz (nthN fs j) := by simp [Program.cellsOf, hinf', hsz']
            rw [hty, ho, hco', List.getElem?_eq_getElem (by omega)] at h1
            refine ih d _ _ _ (List.all_eq_true.1 hd _ (nthN_mem hj)) h1 (fun m hm => hw m ?_)
            simp only [DataW.weights, hfd]
            refine DataW.weights_mem_each (j := j) (t := nthN fs j) ?_ ?_ m hm
            · rw [hfs, nthN_get hj]; exact List.getElem?_eq_getElem hj
            · rw [List.getElem?_map, List.getElem?_eq_getElem (by omega)]; rfl
          obtain ⟨uf, huf⟩ := choice1 key
          refine ⟨.N false fs.length uf, Rep.st (u := .N false fs.length uf) (fun j => (cs.drop ((fs.take j).map C.sz).sum).take (C.sz (nthN fs j))) ht (fun j hj => (huf j hj).1) ?_, .st ht (fun j hj => (huf j hj).2)⟩
          -- the cells are those of the fields
          rw [hco, (ok.sum t fs ht).1] at hcl
          have seg : ∀ (fs : List Nat) (cs : List Value), cs.length = (fs.map C.sz).sum → cs = (List.range fs.length).flatMap fun j => (cs.drop ((fs.take j).map C.sz).sum).take (C.sz (nthN fs j)) := by
            intro fs
            induction fs with
            | nil => intro cs h; simp at h; subst h; rfl
            | cons f fs ih =>
              intro cs h
              simp only [List.map_cons, List.sum_cons] at h
              rw [List.length_cons, List.range_succ_eq_map, List.flatMap_cons, List.flatMap_map]
              simp only [List.take_zero, List.map_nil, List.sum_nil, List.drop_zero, nthN]
              conv => lhs; rw [← List.take_append_drop (C.sz f) cs]
              congr 1
              rw [ih (cs.drop (C.sz f)) (by simp; omega)]
              congr 1
              funext j
              simp [Nat.add_comm, nthN, List.drop_drop]
          exact seg fs cs hcl
        | _ => cases hd

theorem okWide_isVal (ok : CtxOk P C) {d t : Nat} (hd : plainT C d t = true) {r : Reach} {base : Nat} {v : Value} (h : Value.okWide P w r base t v) : IsVal C t v v.cells.toList := by
  cases d with
  | zero => cases hd
  | succ d =>
    simp only [plainT] at hd
    cases ht : C.te t with
    | none => rw [ht] at hd; cases hd
    | some ty =>
      rw [ht] at hd
      have hu := ok.und t _ ht
      unfold IsVal
      rw [ht]
      cases ty with
      | st fs =>
        simp only at hu ⊢
        obtain ⟨fds, hfd, _⟩ := hu
        simp only [Value.okWide, hfd] at h
        obtain ⟨cs, rfl, _⟩ := h
        simp [Value.cells]
      | int k => simp only at hu ⊢; simp only [Value.okWide, hu, Cell.okWide, Cell.ok] at h; cases v <;> simp_all [Value.cells]
      | bool => simp only at hu ⊢; simp only [Value.okWide, hu, Cell.okWide, Cell.ok] at h; cases v <;> simp_all [Value.cells]
      | str => simp only at hu ⊢; simp only [Value.okWide, hu, Cell.okWide, Cell.ok] at h; cases v <;> simp_all [Value.cells]
      | sl e => simp only at hu ⊢; simp only [Value.okWide, hu, Cell.okWide, Cell.ok] at h; cases v <;> simp_all [Value.cells]
      | _ => cases hd

def bytesB (P : Program) (t : Nat) (ty : Ty) (l : Nat) : Bool := isPtrTy ty || (match P.info? t with | some i => Nat.ble 1 i.bytes && Nat.ble (reachBytes / i.bytes) l | none => false)
theorem Tab.hlim {T : Tab} (h : T.tys.all (fun p => bytesB P p.1 p.2.1 p.2.2.2) = true) : ∀ e n, (∃ ty, T.ctx.te e = some ty ∧ ∀ e', ty ≠ .ptr e') → n * P.bytesOf e ≤ reachBytes → n ≤ T.ctx.lim e := by
  rintro e n ⟨ty, ht, hp⟩ hn
  have ht : (match assoc T.tys e with | some (ty, _, _) => some ty | none => none) = some ty := ht
  show n ≤ (match assoc T.tys e with | some (_, _, l) => l | none => 0)
  cases ha : assoc T.tys e with
  | none => rw [ha] at ht; cases ht
  | some p =>
    obtain ⟨ty', s, l⟩ := p
    rw [ha] at ht
    cases ht
    have := List.all_eq_true.1 h _ (assoc_mem ha)
    simp only [bytesB, Bool.or_eq_true] at this
    rcases this with h1 | h1
    · cases ty <;> simp [isPtrTy] at h1
      exact (hp _ rfl).elim
    · cases hi : P.info? e with
      | none => rw [hi] at h1; cases h1
      | some i =>
        rw [hi] at h1
        simp only [Bool.and_eq_true] at h1
        have h2 := Nat.le_of_ble_eq_true h1.1
        have h3 := Nat.le_of_ble_eq_true h1.2
        have hb : P.bytesOf e = i.bytes := by simp [Program.bytesOf, hi]
        rw [hb] at hn
        exact Nat.le_trans ((Nat.le_div_iff_mul_le h2).2 hn) h3

/-- a row's arguments are data -/
theorem row_args (ok : CtxOk P C) {lw : Nat → Nat} (hlim : ∀ e n, (∃ ty, C.te e = some ty ∧ ∀ e', ty ≠ .ptr e') → n * P.bytesOf e ≤ reachBytes → n ≤ lw e) {r : Reach} {base : Nat} :
    ∀ {ts : List Nat} {vs : List Value} {ds : List (DataW H)} {ps : List MemPlace}, ts.all (plainT C 20) = true → DataW.TrodAll enc P w 0 sp held ts vs ds ps → (∀ n ∈ DataW.weightsEach P ts ds, n ≤ reachBytes) →
    (∀ (j : Nat) t v, ts[j]? = some t → vs[j]? = some v → Value.okWide P w r base t v) →
    ∃ us, us.length = ts.length ∧ ArgsL C ⟨World.view w, w, fun _ => False, fun _ _ => False⟩ [] ts us vs ∧ (∀ j, j < ts.length → WfL C lw (nthN ts j) (U.nth us j))
  | [], vs, ds, ps, _, h, _, _ => by
    obtain ⟨rfl, rfl, rfl⟩ := ChangeShapes.trodAll_nil h
    exact ⟨[], rfl, trivial, fun j hj => by simp at hj⟩
  | t :: ts, vs, ds, ps, hp, h, hw, hv => by
    obtain ⟨v, vs', d, ds', p, q, rfl, rfl, rfl, h1, h2⟩ := ChangeShapes.trodAll_cons h
    simp only [List.all_cons, Bool.and_eq_true] at hp
    obtain ⟨fuel, hf⟩ := h1
    obtain ⟨u, e1, e2⟩ := trod_rep ok hlim fuel 20 t _ _ hp.1 hf (fun n hn => hw n (by simp [DataW.weightsEach]; exact .inl hn))
    obtain ⟨us, k1, k2, k3⟩ := row_args ok hlim hp.2 h2 (fun n hn => hw n (by simp [DataW.weightsEach]; exact .inr hn)) (fun j t' v' a b => hv (j + 1) t' v' (by simpa using a) (by simpa using b))
    refine ⟨u :: us, by simp [k1], ⟨⟨_, okWide_isVal ok hp.1 (hv 0 t v rfl rfl), e1⟩, k2⟩, fun j hj => ?_⟩
    cases j with
    | zero => exact e2
    | succ j => simpa [nthN, U.nth] using k3 j (by simpa using hj)

theorem trodAll_length : ∀ {ts : List Nat} {vs : List Value} {ds : List (DataW H)} {ps : List MemPlace} {b : Nat}, DataW.TrodAll enc P w b sp held ts vs ds ps → ds.length = ts.length
  | [], vs, ds, ps, _, h => by
    obtain ⟨rfl, rfl, rfl⟩ := ChangeShapes.trodAll_nil h
    rfl
  | t :: ts, vs, ds, ps, _, h => by
    obtain ⟨v, vs', d, ds', p, q, rfl, rfl, rfl, h1, h2⟩ := ChangeShapes.trodAll_cons h
    simp [trodAll_length h2]
/-- a law that yields true: what its call does -/
theorem row_call {g : Nat} {fi : Fn} {us : List U} {vs : List Value} {r : U} (fok : FnOk P C) (hp : C.prim g = none) (hfi : C.fn g = some fi) (hS : Spec P C g us r) (ho : fi.own = []) (hc : fi.caps = []) (hou : fi.out = []) {t : Nat} (hr : fi.rts = [t]) (ht : C.te t = some .bool)
    (hargs : ArgsL C ⟨World.view w, w, fun _ => False, fun _ _ => False⟩ [] fi.params us vs) (hb : r.toB = true) :
    Calls P g vs.toArray w fun e W' => e = .returned (.bool true) ∧ Below w.heap.size w W' := by
  have hspec := Spec.old hS hfi
  have hf : FrOk ⟨World.view w, w, fun _ => False, fun _ _ => False⟩ := ⟨View.le.refl _, fun _ _ h => h.elim, fun _ h => h.elim, fun _ _ h => h.elim⟩
  have hD := hspec ⟨World.view w, w, fun _ => False, fun _ _ => False⟩ vs hf (fun _ _ h => h) ⟨us, [], vs, [], by simp, by simp, by rw [ho]; exact hargs, by rw [hc]; trivial⟩
  obtain ⟨fn, f1, f2, _, _, f5⟩ := fok g fi hp (by simp [Ctx.fx, hfi])
  have hrun : (callFunc g vs.toArray).run P w = .ok (.enter g vs.toArray) w := by simp [callFunc, f1, f2, f5]
  rcases hD with ⟨_, h2⟩ | ⟨v, w', h1, _⟩
  · refine h2.mono fun e w' he => ?_
    cases e with
    | returned v =>
      obtain ⟨hk, X, rvs, hret, rfl⟩ := he
      rw [hr, hou] at hret
      match rvs, hret with
      | [v], hret =>
        obtain ⟨⟨cs, a1, a2⟩, _⟩ := hret
        have a2 : Rep C _ t cs r := a2
        cases a2 with
        | bool h =>
          have : IsVal C t v [.bool r.toB] := a1
          unfold IsVal at this
          rw [ht] at this
          simp only [List.cons.injEq, and_true] at this
          subst this
          exact ⟨by simp [tupV, hb], ⟨hk.os, hk.tape, hk.output, hk.size, fun k hk' => hk.block k hk' (fun h => h)⟩⟩
        | _ => simp_all
      | [], hret => exact hret.elim
      | _ :: _ :: _, hret => exact hret.2.elim
    | panicked _ => exact he.elim
    | outgrown => exact he.elim
  · have h1 : (callFunc g vs.toArray).run P w = .ok (.value v) w' := h1
    rw [hrun] at h1; cases h1

theorem args_stay (hl : laidOutB P = true) {W' : World} (hb : Below w.heap.size w W') : ∀ {ts : List Nat} {vs : List Value} {ds : List (DataW H)} {ps : List MemPlace}, (ts.all fun t => P.readableRec t && decide (t < P.types.size)) = true → DataW.TrodAll enc P w 0 (fun _ => true) true ts vs ds ps →
    DataW.TrodAll enc P W' 0 (fun b => decide (b < w.heap.size)) true ts vs ds ps
  | [], vs, ds, ps, _, h => by
    obtain ⟨rfl, rfl, rfl⟩ := ChangeShapes.trodAll_nil h
    exact ChangeShapes.trodAll_mk0
  | t :: ts, vs, ds, ps, hp, h => by
    obtain ⟨v, vs', d, ds', p, q, rfl, rfl, rfl, h1, h2⟩ := ChangeShapes.trodAll_cons h
    simp only [List.all_cons, Bool.and_eq_true, decide_eq_true_eq] at hp
    refine ⟨p, q, Below.trod hl hp.1.1 hp.1.2 h1 hb (fun x hx => ?_), args_stay hl hb hp.2 h2, rfl⟩
    obtain ⟨m, hm⟩ := h1
    exact DataW.trod_lt m _ _ _ hm x hx
end
end Go.Ab
