/- The operations that leave the store alone. -/
import Derived.Test.YtnahhhaicalmcaaDoorAbSim
import Derived.Laws.Cells
import GoSem.Dispatch
import Derived.Laws.StructEq
import Derived.Laws.BytesArg
set_option linter.unusedVariables false
set_option linter.unusedSimpArgs false
section
namespace Go.Ab
open Go.RowKit
variable {C : Ctx} {P : Program}

theorem run_und {t : Nat} {d : TypeDesc} (h : P.underlying t = some d) (w : World) : (underlying t).run P w = .ok d w := by
  simp [underlying, h]
theorem run_info {t : Nat} {i : TypeInfo} (h : P.info? t = some i) (w : World) : (typeInfo t).run P w = .ok i w := by
  simp [typeInfo, h]
theorem CtxOk.sizeOf (ok : CtxOk P C) {t : Nat} {ty : Ty} (h : C.te t = some ty) (hn : ∀ e, ty ≠ .ptr e) (w : World) : (Go.sizeOf t).run P w = .ok (C.sz t) w := by
  obtain ⟨i, h1, h2⟩ := ok.size t ty h hn
  simp [Go.sizeOf, run_info h1, h2]
theorem notPtr {t : Nat} (h : isPtr C t = false) : ∃ ty, C.te t = some ty ∧ ∀ e, ty ≠ .ptr e := by
  unfold isPtr at h
  cases ht : C.te t with
  | none => simp [ht] at h
  | some ty => rw [ht] at h; refine ⟨ty, rfl, fun e he => ?_⟩; subst he; simp at h
theorem CtxOk.isAgg (ok : CtxOk P C) {t : Nat} {ty : Ty} (h : C.te t = some ty) (hn : ∀ e, ty ≠ .ptr e) (w : World) :
    (Go.isAgg t).run P w = .ok (match ty with | .st _ => true | _ => false) w := by
  have hu := ok.und t ty h
  cases ty with
  | st fs => obtain ⟨fds, h1, _⟩ := hu; simp [Go.isAgg, run_und h1]
  | fn ps r => obtain ⟨a, b, c, h1⟩ := hu; simp [Go.isAgg, run_und h1]
  | ptr e => exact (hn e rfl).elim
  | map k v b => simp [Go.isAgg, run_und hu.1]
  | _ => simp [Go.isAgg, run_und hu]

/-- the cells from an address on, in a world -/
def AtW (w : World) (a : Addr) (cs : List Value) : Prop := ∀ j v, cs[j]? = some v → w.cell? (a.add j) = some v
theorem At.world {H : View} {w : World} (h : H.le (World.view w)) {a : Addr} {cs : List Value} (k : At H a cs) : AtW w a cs := by
  intro j v e
  have hs : a.spot = none := k.1 (by intro e'; simp [e'] at e)
  have := h _ _ _ (k.2 j v e)
  unfold Addr.add
  split
  · subst_vars
    obtain ⟨b, o, s⟩ := a
    simp at hs; subst hs
    simpa [World.view] using this
  · obtain ⟨b, o, s⟩ := a
    simpa [World.view] using this

theorem run_loadVar (ok : CtxOk P C) {t : Nat} (hp : isPtr C t = false) {v : Value} {cs : List Value} (hv : IsVal C t v cs) (hl : cs.length = C.sz t) {w : World} {a : Addr} (h : AtW w a cs) :
    (loadVar t a).run P w = .ok v w := by
  obtain ⟨ty, ht, hn⟩ := notPtr hp
  unfold loadVar
  rw [Sem.run_bind, ok.isAgg ht hn]
  unfold IsVal at hv
  rw [ht] at hv
  have hc : cs.length = C.sz t → (loadCells a (C.sz t)).run P w = .ok cs.toArray w := fun e => by
    rw [← e]; exact run_loadCells_list w a cs h
  cases ty with
  | st fs => simp only at hv; subst hv; simp [ok.sizeOf ht hn, hc hl]
  | ptr e => exact (hn e rfl).elim
  | _ =>
    simp only at hv; subst hv
    have := h 0 v rfl
    simp [Addr.add] at this
    simp [this]


theorem Rep.ofU {H : View} {ι : Own} {sto : Sto} {t : Nat} {cs : List Value} {u : U} (r : Rep C H t cs u) {v : Value} (hv : IsVal C t v cs) : RepA C H ι sto (ofU C t u) v := by
  unfold Ab.ofU
  unfold IsVal at hv
  cases r with
  | int h => rw [h] at hv ⊢; simp at hv; exact hv.symm
  | bool h => rw [h] at hv ⊢; simp at hv; exact hv.symm
  | str h => rw [h] at hv ⊢; simp at hv; exact hv.symm
  | nil h h0 hn => rw [h] at hv ⊢; simp at hv; exact .inl ⟨h0, hn, hv.symm⟩
  | @sl t e u a cap cs h hn hc ha hr => rw [h] at hv ⊢; simp at hv; exact .inr ⟨a, cap, cs, hv.symm, hn, hc, ha, hr⟩
  | @st t fs u l cs h hr hl => rw [h] at hv ⊢; exact ⟨_, fs, h, hv, .st cs h hr hl⟩
  | @fn t ps r u fi ad cs h hf hp hr ho hu hl ha hc =>
    rw [h] at hv ⊢
    simp at hv
    exact ⟨⟨_, _, h⟩, hv ▸ .fn ad cs h hf hp hr ho hu hl ha hc⟩
  | @ptr t e u a cs h hs ha hr => rw [h] at hv ⊢; simp at hv; exact ⟨a, cs, hv.symm, hs, ha, hr⟩

theorem isVal_one {t : Nat} {v : Value} (h : ∀ fs, C.te t ≠ some (.st fs)) : IsVal C t v [v] := by
  unfold IsVal
  split
  · rename_i fs h'; exact (h _ h').elim
  · rfl
theorem Rep.isVal {H : View} {t : Nat} {cs : List Value} {u : U} (r : Rep C H t cs u) : ∃ v, IsVal C t v cs := by
  by_cases h : ∃ fs, C.te t = some (.st fs)
  · obtain ⟨fs, h⟩ := h
    exact ⟨.agg cs.toArray, by simp [IsVal, h]⟩
  · obtain ⟨v, h1, _⟩ := r.one (fun fs hf => h ⟨fs, hf⟩)
    exact ⟨v, h1 ▸ isVal_one (fun fs hf => h ⟨fs, hf⟩)⟩

theorem RepA.flat {H : View} {ι : Own} {sto : Sto} {t : Nat} {x : AV} {v : Value} {u : U} (h : RepA C H ι sto x v) (hf : fitsT C t x = true) (hu : x.flat = some u) :
    ∃ cs, IsVal C t v cs ∧ Rep C H t cs u := by
  unfold fitsT at hf
  cases ht : C.te t with
  | none => simp [ht] at hf
  | some ty =>
    rw [ht] at hf
    have one : (∀ fs, ty ≠ .st fs) → IsVal C t v [v] := fun hs => isVal_one (fun fs e => hs fs (by rw [ht] at e; simpa using e))
    cases ty with
    | int k =>
      cases x <;> simp [AV.flat] at hf hu
      subst hf; subst hu
      exact ⟨[v], one (by simp), by rw [show v = _ from h]; exact .int (u := .I _) ht⟩
    | bool =>
      cases x <;> simp [AV.flat] at hf hu
      subst hu
      exact ⟨[v], one (by simp), by rw [show v = _ from h]; exact .bool (u := .B _) ht⟩
    | str =>
      cases x <;> simp [AV.flat] at hf hu
      subst hu
      exact ⟨[v], one (by simp), by rw [show v = _ from h]; exact .str (u := .S _) ht⟩
    | sl e =>
      cases x <;> simp [AV.flat, nbeq] at hf hu
      · subst hu
        exact ⟨[v], one (by simp), by rw [show v = _ from h]; exact .nil ht rfl rfl⟩
      · subst hf; subst hu
        exact ⟨[v], one (by simp), RepSl.rep ht h⟩
    | st fs =>
      cases x <;> simp [AV.flat, nbeq] at hf hu
      subst hf; subst hu
      obtain ⟨cs, fs', h1, h2, h3⟩ := h
      exact ⟨cs, by simp [IsVal, ht, h2], h3⟩
    | fn ps r => cases x <;> simp at hf
    | ptr e => cases x <;> simp at hf
    | map k v b => cases x <;> simp at hf

theorem sum_range_take (fs : List Nat) (f : Nat → Nat) (j : Nat) (h : j ≤ fs.length) : ((List.range j).map fun i => f (nthN fs i)).sum = ((fs.take j).map f).sum := by
  congr 1
  apply List.ext_getElem
  · simp; omega
  · intro i h1 h2
    simp at h1
    simp [nthN_get (show i < fs.length by omega)]
theorem flatMap_at {α : Type} (cs : Nat → List α) : ∀ (n j : Nat), j < n → ∀ k v, (cs j)[k]? = some v → ((List.range n).flatMap cs)[((List.range j).map fun i => (cs i).length).sum + k]? = some v
  | 0, j, h, _, _, _ => by omega
  | n + 1, j, h, k, v, e => by
    rw [List.range_succ, List.flatMap_append]
    by_cases hj : j < n
    · have := flatMap_at cs n j hj k v e
      rw [List.getElem?_append_left (List.getElem?_eq_some_iff.1 this).1]
      exact this
    · obtain rfl : j = n := by omega
      rw [List.getElem?_append_right (by rw [flatMap_length]; omega), flatMap_length]
      simpa using e

/-- a field of a struct in memory -/
theorem Rep.field (ok : CtxOk P C) {H : View} {t : Nat} {fs : List Nat} {l : List Value} {u : U} (ht : C.te t = some (.st fs)) (r : Rep C H t l u) {j : Nat} (hj : j < fs.length) :
    ∃ cs, Rep C H (nthN fs j) cs (u.get j) ∧ ∀ k v, cs[k]? = some v → l[fieldOff C fs j + k]? = some v := by
  cases r with
  | @st t fs' u l cs h hr hl =>
    rw [h] at ht
    obtain rfl : fs' = fs := by simpa using ht
    refine ⟨cs j, hr j hj, fun k v e => ?_⟩
    have := flatMap_at cs fs'.length j hj k v e
    rw [hl]
    rw [show fieldOff C fs' j = ((List.range j).map fun i => (cs i).length).sum by
      unfold fieldOff
      rw [← sum_range_take fs' C.sz j (by omega)]
      congr 1
      apply List.map_congr_left
      intro i hi
      simp at hi
      exact ((hr i (by omega)).length ok).symm]
    exact this
  | _ => simp_all
theorem add_add (a : Addr) (h : a.spot = none) (m n : Nat) : (a.add m).add n = a.add (m + n) := by
  unfold Addr.add
  obtain ⟨b, o, s⟩ := a
  simp at h; subst h
  by_cases h1 : m = 0 <;> by_cases h2 : n = 0 <;> simp [h1, h2]
  omega
theorem add_eq (b o n : Nat) : (⟨b, o, none⟩ : Addr).add n = ⟨b, o + n, none⟩ := by
  unfold Addr.add; split <;> simp_all
theorem spot_add (a : Addr) (h : a.spot = none) (n : Nat) : (a.add n).spot = none := by
  unfold Addr.add; split <;> simp [h]
theorem At.sub {H : View} {a : Addr} {l cs : List Value} {n : Nat} (hs : a.spot = none) (h : At H a l) (hk : ∀ k v, cs[k]? = some v → l[n + k]? = some v) : At H (a.add n) cs := by
  refine ⟨fun _ => spot_add a hs n, fun j v e => ?_⟩
  have := h.2 _ _ (hk j v e)
  obtain ⟨b, o, s⟩ := a
  simp at hs; subst hs
  rw [add_eq]
  simpa [Nat.add_assoc] using this

end Go.Ab
end
section
namespace Go.Ab
open Go.RowKit
variable {C : Ctx} {P : Program}

theorem constAV_rep {H : View} {ι : Own} {sto : Sto} (v : Value) : RepA C H ι sto (constAV v) v := by
  unfold constAV
  split
  · rfl
  · rfl
  · rename_i s; show _ = _; simp [str]
  · rfl
  · trivial
theorem Sim.eval {f : Fr} {ι : Own} {st : St} {a : Act} {w : World} (s : Sim C f ι st a w) (x : Operand) : RepS C (view f ι st.sto w) ι st.sto (tmOf a) (st.eval x) (a.eval x) := by
  cases x with
  | tmp t => exact s.env t
  | const v => exact .of (constAV_rep v)
  | global g => trivial
  | func g => exact ⟨[], rfl, trivial⟩

theorem str_inj {x y : List UInt8} : str x = str y ↔ x = y := by
  constructor
  · intro h
    have := congrArg (fun b : ByteArray => b.data.toList) h
    simpa [str] using this
  · rintro rfl; rfl
theorem loop_toList (s : ByteArray) : ∀ (n i : Nat) (acc : List UInt8), s.size - i = n → ByteArray.toList.loop s i acc = acc.reverse ++ s.data.toList.drop i
  | 0, i, acc, h => by
    unfold ByteArray.toList.loop
    have : ¬ i < s.size := by omega
    have h2 : s.data.toList.length ≤ i := by simp [Array.length_toList]; show s.size ≤ i; omega
    simp [this, List.drop_eq_nil_of_le h2]
  | n + 1, i, acc, h => by
    unfold ByteArray.toList.loop
    have hlt : i < s.size := by omega
    have h2 : i < s.data.toList.length := by simp [Array.length_toList]; exact hlt
    rw [if_pos hlt, loop_toList s n (i + 1) _ (by omega), List.drop_eq_getElem_cons h2]
    simp
    rw [show s.get! i = s.data[i]! from rfl]
    simp [hlt]
theorem toList_str (x : List UInt8) : (str x).toList = x := by
  have := loop_toList (str x) (str x).size 0 [] (by simp)
  simpa [ByteArray.toList, str] using this
theorem size_str (x : List UInt8) : (str x).size = x.length := by simp [str, ByteArray.size]

theorem run_guard_int {op : BinOp} {t : Nat} {x y : Operand} {k k' : IntKind} {m n : Int} (w : World) : (eqGuard op t x y (.int k m) (.int k' n)).run P w = .ok () w := by
  unfold eqGuard; cases op <;> simp
theorem aint_sound {op : BinOp} {k : IntKind} {m n : Int} {v : AV} (t : Nat) (w : World) (h : aint op k m n = some (true, v)) {H : View} {ι : Own} {sto : Sto} :
    ∃ r, (binOp op t (.int k m) (.int k n)).run P w = .ok r w ∧ RepA C H ι sto v r := by
  cases op <;> simp [aint] at h <;> simp only [binOp, ne_eq, not_true_eq_false, if_false]
  case add => subst h; exact ⟨_, rfl, rfl⟩
  case sub => subst h; exact ⟨_, rfl, rfl⟩
  case mul => subst h; exact ⟨_, rfl, rfl⟩
  case quo => obtain ⟨h1, rfl⟩ := h; exact ⟨_, by simp [Op.intDiv, h1], rfl⟩
  case rem => obtain ⟨h1, rfl⟩ := h; exact ⟨_, by simp [Op.intDiv, h1], rfl⟩
  case and => subst h; exact ⟨_, rfl, rfl⟩
  case or => subst h; exact ⟨_, rfl, rfl⟩
  case xor => subst h; exact ⟨_, rfl, rfl⟩
  case andNot => subst h; exact ⟨_, rfl, rfl⟩
  case eql => subst h; exact ⟨_, rfl, rfl⟩
  case neq => subst h; exact ⟨_, rfl, rfl⟩
  case lss => subst h; exact ⟨_, rfl, rfl⟩
  case leq => subst h; exact ⟨_, rfl, rfl⟩
  case gtr => subst h; exact ⟨_, rfl, rfl⟩
  case geq => subst h; exact ⟨_, rfl, rfl⟩
theorem ashift_sound {op : BinOp} {k k' : IntKind} {m n : Int} {v : AV} (t : Nat) (w : World) (h : ashift op k m n = some (true, v)) {H : View} {ι : Own} {sto : Sto} :
    ∃ r, (binOp op t (.int k m) (.int k' n)).run P w = .ok r w ∧ RepA C H ι sto v r := by
  cases op <;> simp [ashift] at h <;> simp only [binOp]
  all_goals
    obtain ⟨h1, rfl⟩ := h
    refine ⟨_, ?_, rfl⟩
    have : ¬ n < 0 := by omega
    simp [Op.shift, this]
theorem astr_sound {op : BinOp} {x y : List UInt8} {v : AV} (t : Nat) (w : World) (h : astr op x y = some (true, v)) {H : View} {ι : Own} {sto : Sto} :
    ∃ r, (binOp op t (.string (str x)) (.string (str y))).run P w = .ok r w ∧ RepA C H ι sto v r := by
  have e1 : ((str x).toList == (str y).toList) = decide (x = y) := by rw [toList_str, toList_str]; by_cases h : x = y <;> simp [h]
  cases op <;> simp [astr] at h <;> simp only [binOp, Op.stringOp, e1, toList_str, size_str]
  case add =>
    obtain ⟨h1, rfl⟩ := h
    refine ⟨.string (str x ++ str y), ?_, ?_⟩
    · have : ¬ (((x.length + y.length : Nat) : Int) > IntKind.i64.max) := by
        have e : IntKind.i64.max = 9223372036854775807 := by decide
        rw [e]; omega
      rw [if_neg this]; rfl
    · show Value.string _ = _
      congr 1
  all_goals
    subst h
    refine ⟨_, rfl, ?_⟩
    show Value.bool _ = Value.bool _
    congr 1
    try (by_cases h : x = y <;> simp [h])

theorem bool_guard {op : BinOp} {t : Nat} {x y : Operand} {b c : Bool} (w : World) : (eqGuard op t x y (.bool b) (.bool c)).run P w = .ok () w := by
  unfold eqGuard; cases op <;> simp
theorem str_guard {op : BinOp} {t : Nat} {x y : Operand} {b c : ByteArray} (w : World) : (eqGuard op t x y (.string b) (.string c)).run P w = .ok () w := by
  unfold eqGuard; cases op <;> simp

end Go.Ab
end
section
namespace Go.Ab
open Go.RowKit
variable {C : Ctx} {P : Program}

theorem seg_eq {l cs : List Value} {off : Nat} (hk : ∀ k v, cs[k]? = some v → l[off + k]? = some v) : (l.drop off).take cs.length = cs := by
  apply List.ext_getElem?
  intro k
  by_cases h : k < cs.length
  · rw [List.getElem?_take_of_lt h, List.getElem?_drop, List.getElem?_eq_getElem h]
    exact hk k _ (List.getElem?_eq_getElem h)
  · rw [List.getElem?_eq_none (by simp; omega), List.getElem?_eq_none (by omega)]
theorem isPtr_of {t : Nat} {ty : Ty} (h : C.te t = some ty) (hn : ∀ e, ty ≠ .ptr e) : isPtr C t = false := by
  unfold isPtr
  rw [h]
  cases ty with
  | ptr e => exact (hn e rfl).elim
  | _ => rfl
theorem run_part (ok : CtxOk P C) {t : Nat} (hp : isPtr C t = false) {v : Value} {cs l : List Value} (hv : IsVal C t v cs) (hl : cs.length = C.sz t) {off : Nat} (hk : ∀ k v, cs[k]? = some v → l[off + k]? = some v) (w : World) :
    (Go.part t l.toArray off).run P w = .ok v w := by
  obtain ⟨ty, ht, hn⟩ := notPtr hp
  unfold Go.part
  rw [Sem.run_bind, ok.isAgg ht hn]
  unfold IsVal at hv
  rw [ht] at hv
  cases ty with
  | st fs =>
    simp only at hv; subst hv
    have := seg_eq hk
    rw [hl] at this
    simp [ok.sizeOf ht hn, List.extract_toArray, List.extract_eq_take_drop, this]
  | ptr e => exact (hn e rfl).elim
  | _ =>
    simp only at hv; subst hv
    have := hk 0 v rfl
    simp at this
    simp [this]

theorem CtxOk.fds (ok : CtxOk P C) {t : Nat} {fs : List Nat} (h : C.te t = some (.st fs)) : P.underlying t = some (.struct (P.fieldsOf t)) ∧ (P.fieldsOf t).toList.map (·.type) = fs ∧
    (∀ (j : Nat) fd, (P.fieldsOf t)[j]? = some fd → fd.offset = fieldOff C fs j ∧ fd.name ≠ "_") ∧ P.stoodInHeld t = false ∧ P.eqGuardType P.depth t = false := by
  obtain ⟨fds, h1, h2, h3, h4, h5⟩ := ok.und t _ h
  have e : P.fieldsOf t = fds := by simp [Program.fieldsOf, h1]
  rw [e]
  exact ⟨h1, h2, h3, h4, h5⟩

theorem eqFields_sound (ok : CtxOk P C) (d D : Nat) (ih : ∀ (t : Nat) (x y : Value) (cs cs' : List Value) (u u' : U) (H H' : View), cmpT C d t = true → Rep C H t cs u → Rep C H' t cs' u' → IsVal C t x cs → IsVal C t y cs' → ∀ w, (Op.equalIn D t x y).run P w = .ok (eqU C d t u u') w)
    {t : Nat} {fs : List Nat} (ht : C.te t = some (.st fs)) {cs cs' : List Value} {u u' : U} {H H' : View} (r : Rep C H t cs u) (r' : Rep C H' t cs' u') (w : World) (hc : fs.all (cmpT C d) = true) :
    ∀ (fds : List Field) (gs : List Nat) (j : Nat), j + gs.length = fs.length → (∀ i, i < gs.length → nthN gs i = nthN fs (j + i)) → fds.map (·.type) = gs → (∀ (i : Nat) fd, fds[i]? = some fd → fd.offset = fieldOff C fs (j + i) ∧ fd.name ≠ "_") →
      (Op.eqFields D cs.toArray cs'.toArray fds).run P w = .ok (((gs.zipIdx j).map fun p => eqU C d p.1 (u.get p.2) (u'.get p.2)).foldr (· && ·) true) w
  | [], gs, j, _, _, hg, _ => by
    obtain rfl : gs = [] := by simpa using hg.symm
    simp [Op.eqFields]
  | fd :: fds, gs, j, hlen, hn, hg, hf => by
    cases gs with
    | nil => simp at hg
    | cons g gs =>
      simp only [List.map_cons, List.cons.injEq] at hg
      obtain ⟨hg1, hg2⟩ := hg
      obtain ⟨ho, hna⟩ := hf 0 fd rfl
      have hjl : j < fs.length := by simp at hlen; omega
      have hgj : g = nthN fs j := by simpa [nthN] using hn 0 (by simp)
      obtain ⟨c1, r1, k1⟩ := r.field ok ht hjl
      obtain ⟨c2, r2, k2⟩ := r'.field ok ht hjl
      rw [← hgj] at r1 r2
      have hcg : cmpT C d g = true := by
        have := List.all_eq_true.1 hc (nthN fs j) (nthN_mem hjl)
        rwa [← hgj] at this
      obtain ⟨ty, hty, hnp⟩ := ok.fields t fs g ht (hgj ▸ nthN_mem hjl)
      obtain ⟨v1, hv1⟩ := r1.isVal
      obtain ⟨v2, hv2⟩ := r2.isVal
      have p1 := run_part ok (isPtr_of hty hnp) hv1 (r1.length ok) (l := cs) (off := fieldOff C fs j) k1 w
      have p2 := run_part ok (isPtr_of hty hnp) hv2 (r2.length ok) (l := cs') (off := fieldOff C fs j) k2 w
      have he := ih g v1 v2 c1 c2 _ _ H H' hcg r1 r2 hv1 hv2 w
      have ihr := eqFields_sound ok d D ih ht r r' w hc fds gs (j + 1) (by simp at hlen; omega) (fun i hi => by have := hn (i + 1) (by simp; omega); simpa [nthN, Nat.add_assoc, Nat.add_comm 1 i] using this) hg2
        (fun i fd' hi => by have := hf (i + 1) fd' (by simpa using hi); simpa [Nat.add_assoc, Nat.add_comm 1 i] using this)
      simp only [Op.eqFields, hna, ne_eq, not_false_eq_true, if_true, hg1, ho, Nat.add_zero, Sem.run_bind, p1, p2, he, Result.andThen_ok, List.zipIdx_cons, List.map_cons, List.foldr_cons]
      cases eqU C d g (u.get j) (u'.get j)
      · simp
      · simp [ihr]

theorem equal_sound (ok : CtxOk P C) : ∀ (d D : Nat), d ≤ D → ∀ (t : Nat) (x y : Value) (cs cs' : List Value) (u u' : U) (H H' : View), cmpT C d t = true → Rep C H t cs u → Rep C H' t cs' u' → IsVal C t x cs → IsVal C t y cs' →
    ∀ w, (Op.equalIn D t x y).run P w = .ok (eqU C d t u u') w
  | 0, _, _, _, _, _, _, _, _, _, _, _, h, _, _, _, _, _ => by simp [cmpT] at h
  | d + 1, D, hD, t, x, y, cs, cs', u, u', H, H', h, r, r', hx, hy, w => by
    obtain ⟨D, rfl⟩ : ∃ m, D = m + 1 := ⟨D - 1, by omega⟩
    unfold cmpT at h
    unfold eqU
    unfold IsVal at hx hy
    cases ht : C.te t with
    | none => simp [ht] at h
    | some ty =>
      rw [ht] at h hx hy
      have hu := ok.und t ty ht
      cases ty with
      | int k =>
        cases r with
        | int h1 =>
          rw [ht] at h1; cases h1
          cases r' with
          | int h2 =>
            rw [ht] at h2; cases h2
            simp only at hx hy
            simp at hx hy
            subst hx; subst hy
            rw [run_equalIn_int w D t _ _ _ _ hu]
            congr 1
          | _ => simp_all
        | _ => simp_all
      | bool =>
        cases r with
        | bool h1 =>
          cases r' with
          | bool h2 =>
            simp at hx hy
            subst hx; subst hy
            rw [run_equalIn_bool' w D t _ _ hu]
          | _ => simp_all
        | _ => simp_all
      | str =>
        cases r with
        | str h1 =>
          cases r' with
          | str h2 =>
            simp at hx hy
            subst hx; subst hy
            rw [run_equalIn_string w D t _ _ hu, toList_str, toList_str]
            congr 1
            by_cases e : u.toS = u'.toS <;> simp [e]
          | _ => simp_all
        | _ => simp_all
      | st fs =>
        simp only at hx hy h
        subst hx; subst hy
        obtain ⟨f1, f2, f3, f4, _⟩ := ok.fds ht
        rw [run_equalIn_struct w D t _ _ f1 f4]
        exact eqFields_sound ok d D (fun t x y cs cs' u u' H H' a b c e g w => equal_sound ok d D (by omega) t x y cs cs' u u' H H' a b c e g w) ht r r' w h _ fs 0 (by simp)
          (fun i _ => by simp) f2 (fun i fd hi => by simpa using f3 i fd (by simpa using hi))
      | _ => simp at h

end Go.Ab
end
section
namespace Go.Ab
open Go.RowKit
variable {C : Ctx} {P : Program}

theorem elt_some {t e : Nat} (h : elt C t = some e) : C.te t = some (.sl e) := by
  unfold elt at h
  cases ht : C.te t with
  | none => simp [ht] at h
  | some ty => cases ty <;> simp [ht] at h; subst h; rfl

def isNilV : Value → Bool
  | .slice none _ _ => true
  | _ => false
theorem run_equalIn_nil {t e : Nat} (hu : P.underlying t = some (.slice e)) (d : Nat) (a : Option Addr) (n c : Nat) (w : World) :
    (Op.equalIn (d + 1) t (.slice a n c) (.slice none 0 0)).run P w = .ok (isNilV (.slice a n c)) w := by
  cases a with
  | none => simp [Op.equalIn, run_und hu, isNilV]
  | some a => simp [Op.equalIn, run_und hu, isNilV]
theorem run_eq_nil (ok : CtxOk P C) {t e : Nat} (ht : C.te t = some (.sl e)) (a : Option Addr) (n c : Nat) (w : World) :
    (Op.equal t (.slice a n c) (.slice none 0 0)).run P w = .ok (isNilV (.slice a n c)) w :=
  run_equalIn_nil (ok.und t _ ht) 9999 a n c w
theorem run_eq_bool (ok : CtxOk P C) {t : Nat} (ht : C.te t = some .bool) (a b : Bool) (w : World) :
    (Op.equal t (.bool a) (.bool b)).run P w = .ok (a == b) w :=
  run_equalIn_bool' w 9999 t a b (ok.und t _ ht)
theorem slice_guard {op : BinOp} {t : Nat} {x y : Operand} {a b : Option Addr} {n c n' c' : Nat} (w : World) : (eqGuard op t x y (.slice a n c) (.slice b n' c')).run P w = .ok () w := by
  unfold eqGuard; cases op <;> simp

/-- what an own slice holds is told by its block -/
theorem BlkOk.arr {H : View} {ι : Own} {sto : Sto} {w : World} {id e : Nat} {z : Bool} {xs : List U} (h : BlkOk C H ι sto w id) (hs : sto id = some (.arr e z xs)) :
    ∃ cs, w.owns e (C.sz e) (ι id) xs.length cs ∧ (∀ i, i < xs.length → Rep C H e (chunk cs (C.sz e) i) (U.nth xs i)) ∧
      (ι id = .slice none 0 0 ↔ z = true ∧ xs = []) ∧ (∃ ty, C.te e = some ty) := by
  unfold BlkOk at h; rw [hs] at h; exact h
theorem BlkOk.box {H : View} {ι : Own} {sto : Sto} {w : World} {id t : Nat} {vs : List AV} (h : BlkOk C H ι sto w id) (hs : sto id = some (.box t vs)) :
    ∃ g cur, ι id = .pointer (some ⟨g, 0, none⟩) ∧ w.heap[g]? = some (.cells cur t (0, 0)) ∧ (∃ ty, C.te t = some ty) ∧ RepVs C H ι sto (boxTs C t) vs cur.toList := by
  unfold BlkOk at h; rw [hs] at h; exact h
theorem own_slice {w : World} {e size n : Nat} {v : Value} {xs : List Value} (h : w.owns e size v n xs) : (v = .slice none 0 0 ∧ n = 0) ∨ ∃ g cap, v = .slice (some ⟨g, 0, none⟩) n cap := by
  rcases h.2 with h | ⟨g, cap, cur, h1, _⟩
  · exact .inl h
  · exact .inr ⟨g, cap, h1⟩

theorem nilOf_sound {H : View} {ι : Own} {st : St} {w : World} {x : AV} {v : Value} {z : Bool} (hb : ∀ id, BlkOk C H ι st.sto w id) (h : nilOf st x = some z) (r : RepA C H ι st.sto x v) :
    ∃ a n c, v = .slice a n c ∧ (match a with | none => true | some _ => false) = z := by
  unfold nilOf at h
  split at h
  · cases h; exact ⟨none, 0, 0, r, rfl⟩
  · cases h
    rename_i u
    rcases r with ⟨h1, h2, h3⟩ | ⟨a, cap, cs, h1, h2, _⟩
    · exact ⟨_, _, _, h3, h2.symm⟩
    · exact ⟨_, _, _, h1, h2.symm⟩
  · rename_i id
    split at h
    · rename_i e z' xs hs
      cases h
      obtain ⟨cs, h1, h2, h3, _⟩ := (hb id).arr hs
      have r' : RepOw C ι st.sto id none v := r
      unfold RepOw at r'
      rw [hs] at r'
      simp only at r'
      subst r'
      rcases own_slice h1 with ⟨h4, h5⟩ | ⟨g, cap, h4⟩
      · obtain ⟨h6, h7⟩ := h3.1 h4
        exact ⟨none, 0, 0, h4, by simp [h6, h7]⟩
      · refine ⟨_, _, _, h4, ?_⟩
        have : ¬ (z' = true ∧ xs = []) := fun h => by rw [h3.2 h] at h4; cases h4
        cases z' <;> cases xs <;> simp_all
    · cases h
  · cases h

theorem isEql_some {op : BinOp} {e : Bool} (h : isEql op = some e) : (op = .eql ∧ e = true) ∨ (op = .neq ∧ e = false) := by
  cases op <;> simp [isEql] at h <;> simp [h]

theorem RepA.st' {H : View} {ι : Own} {sto : Sto} {t : Nat} {u : U} {v : Value} (r : RepA C H ι sto (.st t u) v) : ∃ cs fs, C.te t = some (.st fs) ∧ v = .agg cs.toArray ∧ Rep C H t cs u := r

theorem abin_sound (ok : CtxOk P C) {H : View} {ι : Own} {st : St} {w : World} (hb : ∀ id, BlkOk C H ι st.sto w id) {tm : Nat → Value} {op : BinOp} {t : Nat} {x y : AV} {vx vy : Value} {ox oy : Operand} {v : AV}
    (h : abin C st op t x y = some (true, v)) (rx : RepS C H ι st.sto tm x vx) (ry : RepS C H ι st.sto tm y vy) :
    ∃ r, ((do eqGuard op t ox oy vx vy; binOp op t vx vy : Sem Value)).run P w = .ok r w ∧ RepA C H ι st.sto v r := by
  unfold abin at h
  split at h
  · -- numbers
    rename_i k a k' b
    obtain rfl : vx = .int k a := rx
    obtain rfl : vy = .int k' b := ry
    rw [Sem.run_bind, run_guard_int, Result.andThen_ok]
    cases hs : isShift op with
    | true => rw [hs] at h; exact ashift_sound t w h
    | false =>
      rw [hs] at h
      simp only [cond_false] at h
      by_cases hk : k = k'
      · subst hk
        simp at h
        exact aint_sound t w h
      · simp [hk] at h
  · rename_i a b
    obtain rfl : vx = .string (str a) := rx
    obtain rfl : vy = .string (str b) := ry
    rw [Sem.run_bind, str_guard, Result.andThen_ok]
    exact astr_sound t w h
  · rename_i a b
    obtain rfl : vx = .bool a := rx
    obtain rfl : vy = .bool b := ry
    rw [Sem.run_bind, bool_guard, Result.andThen_ok]
    cases he : isEql op with
    | none => simp [he] at h
    | some e =>
      cases ht : C.te t with
      | none => simp [he, ht] at h
      | some ty =>
        cases ty with
        | bool =>
          rw [he, ht] at h
          simp only [Option.some.injEq, Prod.mk.injEq, true_and] at h
          subst h
          have hq := run_eq_bool ok ht a b w
          rcases isEql_some he with ⟨rfl, rfl⟩ | ⟨rfl, rfl⟩
          · simp only [binOp, Sem.run_bind, hq]
            exact ⟨_, rfl, rfl⟩
          · simp only [binOp, Sem.run_bind, hq]
            exact ⟨_, rfl, rfl⟩
        | _ => simp [he, ht] at h
  · rename_i t1 u t2 u'
    cases he : isEql op with
    | none => simp [he] at h
    | some e =>
      rw [he] at h
      simp only [nbeq] at h
      by_cases hc : (decide (t = t1) && decide (t = t2) && cmpT C 20 t) = true
      · rw [hc] at h
        simp only [Bool.and_eq_true, decide_eq_true_eq] at hc
        obtain ⟨⟨rfl, rfl⟩, hc⟩ := hc
        simp only [cond_true, Option.some.injEq, Prod.mk.injEq, true_and] at h
        subst h
        obtain ⟨cs, fs, h1, rfl, h3⟩ := rx
        obtain ⟨cs', fs', h1', rfl, h3'⟩ := ry
        obtain ⟨f1, f2, f3, f4, f5⟩ := ok.fds h1
        rw [Sem.run_bind, run_eqGuard_agg w op t ox oy _ _ f5, Result.andThen_ok]
        have := equal_sound ok 20 10000 (by omega) t (.agg cs.toArray) (.agg cs'.toArray) cs cs' u u' H H hc h3 h3' (by simp [IsVal, h1]) (by simp [IsVal, h1]) w
        rcases isEql_some he with ⟨rfl, rfl⟩ | ⟨rfl, rfl⟩
        · rw [run_eql_struct, this]
          exact ⟨_, rfl, rfl⟩
        · rw [run_neq_struct, this]
          exact ⟨_, rfl, rfl⟩
      · simp only [Bool.not_eq_true] at hc
        rw [hc] at h
        simp at h
  · obtain rfl : vy = .slice none 0 0 := ry
    cases he : isEql op with
    | none => simp [he] at h
    | some e =>
      cases hn : nilOf st x with
      | none => simp [he, hn] at h
      | some z =>
        cases ht : elt C t with
        | none => simp [he, hn, ht] at h
        | some et =>
          rw [he, hn, ht] at h
          simp only [Option.some.injEq, Prod.mk.injEq, true_and] at h
          subst h
          have rx' : RepA C H ι st.sto x vx := by
            cases hcv : isCv x with
            | true => cases x <;> simp [isCv] at hcv; simp [nilOf] at hn
            | false => rwa [RepS.eq hcv] at rx
          obtain ⟨a, n, c, rfl, hz⟩ := nilOf_sound hb hn rx'
          rw [Sem.run_bind, slice_guard, Result.andThen_ok]
          have hq := run_eq_nil ok (elt_some ht) a n c w
          have hz' : isNilV (.slice a n c) = z := by cases a <;> simpa [isNilV] using hz
          rw [hz'] at hq
          rcases isEql_some he with ⟨rfl, rfl⟩ | ⟨rfl, rfl⟩
          · simp only [binOp, Sem.run_bind, hq]
            exact ⟨_, rfl, rfl⟩
          · simp only [binOp, Sem.run_bind, hq]
            exact ⟨_, rfl, rfl⟩
  · cases h

end Go.Ab
end
section
namespace Go.Ab
open Go.RowKit
variable {C : Ctx} {P : Program}

theorem okPath.append : ∀ {t : Nat} {p : List Nat} {j : Nat}, okPath C t p → (∃ fs, C.te (ptype C t p) = some (.st fs) ∧ j < fs.length) → okPath C t (p ++ [j])
  | t, [], j, _, ⟨fs, h1, h2⟩ => ⟨fs, h1, h2, trivial⟩
  | t, i :: p, j, ⟨fs, h1, h2, h3⟩, h => ⟨fs, h1, h2, okPath.append h3 (by simpa [ptype, ftype, h1] using h)⟩
theorem poff_append : ∀ (t : Nat) (p : List Nat) (j : Nat) (fs : List Nat), C.te (ptype C t p) = some (.st fs) → poff C t (p ++ [j]) = poff C t p + fieldOff C fs j
  | t, [], j, fs, h => by simp only [ptype] at h; simp [poff, h]
  | t, i :: p, j, fs, h => by
    have := poff_append (ftype C t i) p j fs (by simpa [ptype] using h)
    simp only [List.cons_append, poff, this]
    omega

/-- what a path leads to, in a struct's cells -/
theorem Rep.path (ok : CtxOk P C) {H : View} : ∀ {p : List Nat} {t : Nat} {l : List Value} {u : U}, okPath C t p → Rep C H t l u →
    ∃ cs, Rep C H (ptype C t p) cs (u.path p) ∧ ∀ k v, cs[k]? = some v → l[poff C t p + k]? = some v
  | [], t, l, u, _, r => ⟨l, r, fun k v e => by simpa [poff] using e⟩
  | j :: p, t, l, u, ⟨fs, h1, h2, h3⟩, r => by
    obtain ⟨cs, r1, k1⟩ := r.field ok h1 h2
    obtain ⟨cs', r2, k2⟩ := Rep.path ok h3 r1
    have e : ftype C t j = nthN fs j := by simp [ftype, h1]
    refine ⟨cs', by simpa [ptype, e, U.path] using r2, fun k v hv => ?_⟩
    have := k1 _ _ (k2 k v hv)
    simp only [poff, h1, e]
    rwa [Nat.add_assoc]

theorem RepVs.length {H : View} {ι : Own} {sto : Sto} : ∀ {ts : List Nat} {xs : List AV} {l : List Value}, RepVs C H ι sto ts xs l → xs.length = ts.length ∧ l.length = (ts.map C.sz).sum
  | [], [], l, k => by obtain rfl : l = [] := k; simp
  | t :: ts, x :: xs, l, k => by
    obtain ⟨v, cs, l', h1, h2, h3, h4, h5, h6, h7⟩ := k
    obtain ⟨a, b⟩ := h7.length
    simp [h1, h2, a, b]
  | [], _ :: _, _, k => k.elim
  | _ :: _, [], _, k => k.elim
theorem RepVs.get {H : View} {ι : Own} {sto : Sto} : ∀ {ts : List Nat} {xs : List AV} {l : List Value} {j : Nat}, RepVs C H ι sto ts xs l → j < ts.length →
    ∃ v cs, IsVal C (nthN ts j) v cs ∧ cs.length = C.sz (nthN ts j) ∧ RepA C H ι sto (look xs j) v ∧ (∀ u, (look xs j).flat = some u → Rep C H (nthN ts j) cs u) ∧ ∀ k u, cs[k]? = some u → l[fieldOff C ts j + k]? = some u
  | t :: ts, x :: xs, l, 0, k, _ => by
    obtain ⟨v, cs, l', h1, h2, h3, h4, h5, h6, h7⟩ := k
    refine ⟨v, cs, h3, h2, h4, h6, fun k u e => ?_⟩
    subst h1
    simp only [fieldOff, List.take_zero, List.map_nil, List.sum_nil, Nat.zero_add]
    rw [List.getElem?_append_left (List.getElem?_eq_some_iff.1 e).1]
    exact e
  | t :: ts, x :: xs, l, j + 1, k, hj => by
    obtain ⟨v, cs, l', h1, h2, h3, h4, h5, h6, h7⟩ := k
    obtain ⟨v', cs', a, b, c, d, e⟩ := h7.get (j := j) (by simpa using hj)
    refine ⟨v', cs', a, b, c, d, fun k u hu => ?_⟩
    have := e k u hu
    subst h1
    rw [List.getElem?_append_right (by simp [fieldOff, h2]; omega)]
    rw [← this]
    congr 1
    simp [fieldOff, h2]
    omega
  | [], _, _, j, _, hj => by simp at hj
  | _ :: _, [], _, _, k, _ => k.elim
theorem RepVs.flat {H : View} {ι : Own} {sto : Sto} : ∀ {ts : List Nat} {xs : List AV} {l : List Value} {us : List U}, RepVs C H ι sto ts xs l → flats xs = some us →
    ∃ cs : Nat → List Value, l = (List.range ts.length).flatMap cs ∧ us.length = ts.length ∧ ∀ j, j < ts.length → Rep C H (nthN ts j) (cs j) (U.nth us j)
  | [], [], l, us, k, h => by
    obtain rfl : l = [] := k
    simp [flats] at h; subst h
    exact ⟨fun _ => [], by simp, rfl, fun j hj => by simp at hj⟩
  | t :: ts, x :: xs, l, us, k, h => by
    obtain ⟨v, cs, l', h1, h2, h3, h4, h5, h6, h7⟩ := k
    simp only [flats] at h
    cases hx : x.flat with
    | none => simp [hx] at h
    | some u =>
      cases hxs : flats xs with
      | none => simp [hx, hxs] at h
      | some us' =>
        simp [hx, hxs] at h; subst h
        obtain ⟨cs', e1, e2, e3⟩ := h7.flat hxs
        refine ⟨fun j => match j with | 0 => cs | j + 1 => cs' j, ?_, by simp [e2], ?_⟩
        · rw [h1, e1, List.length_cons, List.range_succ_eq_map, List.flatMap_cons, List.flatMap_map]
        · intro j hj
          cases j with
          | zero => exact h6 u hx
          | succ j => exact e3 j (by simpa using hj)
  | [], _ :: _, _, _, k, _ => k.elim
  | _ :: _, [], _, _, k, _ => k.elim

/-- the cells of a block -/
theorem cell_block {w : World} {g : Nat} {cur : Array Value} {t : Nat} {fz : Nat × Nat} (h : w.heap[g]? = some (.cells cur t fz)) (o : Nat) : w.cell? ⟨g, o, none⟩ = cur.toList[o]? := by
  simp [World.cell?, h]
theorem atW_block {w : World} {g : Nat} {cur : Array Value} {t : Nat} {fz : Nat × Nat} (h : w.heap[g]? = some (.cells cur t fz)) {o : Nat} {cs : List Value} (hk : ∀ k v, cs[k]? = some v → cur.toList[o + k]? = some v) :
    AtW w ⟨g, o, none⟩ cs := by
  intro j v e
  rw [add_eq, cell_block h]
  exact hk j v e
theorem AtW.sub {w : World} {g o : Nat} {l cs : List Value} {n : Nat} (h : AtW w ⟨g, o, none⟩ l) (hk : ∀ k v, cs[k]? = some v → l[n + k]? = some v) : AtW w ⟨g, o + n, none⟩ cs := by
  intro j v e
  have := h _ _ (hk j v e)
  rw [add_eq] at this ⊢
  rwa [Nat.add_assoc]
theorem chunk_get {cs : List Value} {n i k : Nat} {v : Value} (h : (chunk cs n i)[k]? = some v) : cs[i * n + k]? = some v := by
  unfold chunk at h
  have hk : k < n := by
    have := (List.getElem?_eq_some_iff.1 h).1
    simp at this; omega
  rw [List.getElem?_take_of_lt hk, List.getElem?_drop] at h
  exact h
/-- an element of an own slice, in memory -/
theorem own_at {w : World} {e size n : Nat} {g cap : Nat} {cs : List Value} (h : w.owns e size (.slice (some ⟨g, 0, none⟩) n cap) n cs) (i : Nat) : AtW w ⟨g, i * size, none⟩ (chunk cs size i) := by
  intro k v hv
  have := h.cells (g := g) rfl _ _ (chunk_get hv)
  rw [add_eq] at this ⊢
  simpa using this

end Go.Ab
end
section
namespace Go.Ab
open Go.RowKit
variable {C : Ctx} {P : Program}

theorem run_loadAt (ok : CtxOk P C) {t : Nat} (hp : isPtr C t = false) {v : Value} {cs : List Value} (hv : IsVal C t v cs) (hl : cs.length = C.sz t) {w : World} {a : Addr} (h : AtW w a cs) :
    (Instr.loadAt t (.pointer (some a))).run P w = .ok v w := by
  simp [Instr.loadAt, Instr.sureAddr, run_loadVar ok hp hv hl h]

theorem aload_sound (ok : CtxOk P C) {H : View} {ι : Own} {st : St} {w : World} (hH : H.le (World.view w)) (hb : ∀ id, BlkOk C H ι st.sto w id) {t : Nat} {x v : AV} {vx : Value}
    (h : aload C st t x = some v) (r : RepA C H ι st.sto x vx) : ∃ q, (Instr.loadAt t vx).run P w = .ok q w ∧ RepA C H ι st.sto v q := by
  unfold aload at h
  cases hp : isPtr C t with
  | true => simp [hp] at h
  | false =>
  rw [hp, cond_false] at h
  split at h
  · -- a variable that is only read
    rename_i t' u
    by_cases e : t = t'
    · subst e
      simp [nbeq] at h
      subst h
      obtain ⟨a, cs, rfl, h2, h3, h4⟩ := r
      obtain ⟨q, hq⟩ := h4.isVal
      exact ⟨q, run_loadAt ok hp hq (h4.length ok) (h3.world hH), h4.ofU hq⟩
    · simp [nbeq, e] at h
  · rename_i id p
    split at h
    · rename_i t' vs hs
      obtain ⟨g, cur, k1, k2, ⟨ty, k3⟩, k4⟩ := (hb id).box hs
      have r' : RepPb C ι st.sto id p vx := r
      unfold RepPb at r'
      rw [hs] at r'
      obtain ⟨r1, g', r2, rfl⟩ := r'
      rw [k1] at r2
      obtain rfl : g = g' := by simpa using r2
      split at h
      · rename_i fs ht
        simp only [boxTs, ht] at k4
        split at h
        · by_cases e : t = t'
          · subst e
            simp [nbeq] at h
            obtain ⟨us, h1, rfl⟩ := h
            obtain ⟨cs, e1, e2, e3⟩ := k4.flat h1
            have hr : Rep C H t cur.toList (U.ofL false us) := .st cs ht (fun j hj => by simpa [U.ofL, U.get] using e3 j hj) e1
            refine ⟨.agg cur.toList.toArray, run_loadAt ok hp (by simp [IsVal, ht]) (hr.length ok) (atW_block k2 (fun k v e => by simpa [poff] using e)), ?_⟩
            exact ⟨cur.toList, fs, ht, rfl, hr⟩
          · simp [nbeq, e] at h
        · rename_i j p
          obtain ⟨fs', ht', hj, hpath⟩ := r1
          rw [ht] at ht'; cases ht'
          by_cases e : t = ptype C t' (j :: p)
          · simp only [nbeq, e, decide_true, hj, Bool.and_self, cond_true] at h
            obtain ⟨vj, cs, g1, g2, g3, g4, g5⟩ := k4.get hj
            have ef : ftype C t' j = nthN fs j := by simp [ftype, ht]
            have hoff : poff C t' (j :: p) = fieldOff C fs j + poff C (nthN fs j) p := by simp [poff, ht, ef]
            rw [hoff]
            have hcell : AtW w ⟨g, fieldOff C fs j, none⟩ cs := atW_block k2 g5
            unfold fieldOf at h
            cases p with
            | nil =>
              simp only [Option.some.injEq] at h
              subst h
              have et : t = nthN fs j := by rw [e]; simp [ptype, ef]
              subst et
              exact ⟨vj, run_loadAt ok hp g1 g2 (by simpa [poff] using hcell), g3⟩
            | cons i p =>
              simp only at h
              split at h
              · rename_i t2 u hl
                by_cases e2 : nthN fs j = t2
                · simp only [nbeq, e2, decide_true, cond_true, Option.some.injEq] at h
                  subst h
                  have hrep := g4 u (by rw [hl]; rfl)
                  rw [e2] at hrep
                  obtain ⟨cs', q1, q2⟩ := hrep.path ok (p := i :: p) (by rw [← e2]; exact hpath)
                  obtain ⟨q, hq⟩ := q1.isVal
                  have et : t = ptype C t2 (i :: p) := by rw [e]; simp [ptype, ef, e2]
                  subst et
                  rw [e2]
                  exact ⟨q, run_loadAt ok hp hq (q1.length ok) (hcell.sub q2), q1.ofU hq⟩
                · simp [nbeq, e2] at h
              · cases h
          · simp [nbeq, e] at h
      · rename_i hns
        have hts : boxTs C t' = [t'] := by
          unfold boxTs
          split
          · rename_i fs hfs; exact (hns fs hfs).elim
          · rfl
        rw [hts] at k4
        split at h
        · rename_i x
          by_cases e : t = t'
          · subst e
            simp [nbeq] at h
            subst h
            obtain ⟨vj, cs, g1, g2, g3, g4, g5⟩ := k4.get (j := 0) (by simp)
            refine ⟨vj, run_loadAt ok hp g1 g2 (atW_block k2 (fun k v e => by have := g5 k v e; simpa [fieldOff, poff] using this)), g3⟩
          · simp [nbeq, e] at h
        · cases h
    · cases h
  · rename_i id idx p
    split at h
    · rename_i e z xs hs
      obtain ⟨cs, k1, k2, k3, k4⟩ := (hb id).arr hs
      have r' : RepPe C ι st.sto id idx p vx := r
      unfold RepPe at r'
      rw [hs] at r'
      obtain ⟨r1, r2, g, cap, r3, rfl⟩ := r'
      by_cases et : t = ptype C e p
      · simp [nbeq, et] at h
        subst h
        rw [r3] at k1
        obtain ⟨cs', q1, q2⟩ := (k2 idx r2).path ok r1
        obtain ⟨q, hq⟩ := q1.isVal
        subst et
        exact ⟨q, run_loadAt ok hp hq (q1.length ok) ((own_at k1 idx).sub q2), q1.ofU hq⟩
      · simp [nbeq, et] at h
    · cases h
  · cases h

theorem CtxOk.szpos (ok : CtxOk P C) {t : Nat} {ty : Ty} (h : C.te t = some ty) : 0 < C.sz t := by
  by_cases hs : ∃ fs, ty = .st fs
  · obtain ⟨fs, rfl⟩ := hs; exact (ok.sum t fs h).2
  · rw [ok.one t ty h (fun fs e => hs ⟨fs, e⟩)]; omega

/-- the address of a field -/
theorem run_fieldAt (ok : CtxOk P C) {t : Nat} {fs : List Nat} (ht : C.te t = some (.st fs)) {j : Nat} (hj : j < fs.length) (a : Addr) (w : World) :
    (Instr.fieldAt t (.pointer (some a)) j).run P w = .ok (.pointer (some (a.add (fieldOff C fs j)))) w := by
  obtain ⟨f1, f2, f3, _⟩ := ok.fds ht
  have hlen : (P.fieldsOf t).size = fs.length := by rw [← f2]; simp
  have hj' : j < (P.fieldsOf t).size := by omega
  have hg : (P.fieldsOf t)[j]? = some (P.fieldsOf t)[j] := Array.getElem?_eq_getElem hj'
  obtain ⟨ho, _⟩ := f3 j _ hg
  have hty : ((P.fieldsOf t)[j]).type = nthN fs j := by
    rw [nthN_get hj]
    have : fs[j] = ((P.fieldsOf t).toList.map (·.type))[j]'(by simp; omega) := by simp [f2]
    simp [this]
  obtain ⟨ty, h1, h2⟩ := ok.fields t fs (nthN fs j) ht (nthN_mem hj)
  have hsz := ok.sizeOf h1 h2 w
  have hpos := ok.szpos h1
  simp only [Instr.fieldAt, Sem.run_bind, run_und f1, Result.andThen_ok, hg, Instr.sureAddr, Sem.run_pure, fieldPlace, hty, hsz]
  have hne : C.sz (nthN fs j) ≠ 0 := by omega
  simp [hne, ho]

theorem RepSl.at {H : View} {e : Nat} {u : U} {v : Value} (r : RepSl C H e u v) {i : Nat} (hi : i < u.len) :
    ∃ a cap cs, v = .slice (some a) u.len cap ∧ At H (a.add (i * C.sz e)) cs ∧ Rep C H e cs (u.get i) := by
  rcases r with ⟨h1, _⟩ | ⟨a, cap, cs, h1, h2, h3, h4, h5⟩
  · omega
  · exact ⟨a, cap, cs i, h1, h4 i hi, h5 i hi⟩
theorem run_indexAt (ok : CtxOk P C) {t e : Nat} (ht : C.te t = some (.sl e)) {k : IntKind} {n : Int} {a : Addr} {len cap : Nat} (h0 : 0 ≤ n) (h1 : n < len) (w : World) :
    (Instr.indexAt t (.slice (some a) len cap) (.int k n)).run P w = .ok (.pointer (some (a.add (n.toNat * C.sz e)))) w := by
  have hu := ok.und t _ ht
  simp only at hu
  obtain ⟨ty, hty, hn⟩ := ok.elem t e ht
  simp [Instr.indexAt, asIntOf, run_und hu, h0, h1, ok.sizeOf hty hn]

end Go.Ab
end
section
namespace Go.Ab
open Go.RowKit
variable {C : Ctx} {P : Program}

theorem nth_get : ∀ (xs : List U) (i : Nat), U.nth xs i = (xs[i]?).getD (.I 0)
  | [], i => by simp [U.nth]
  | x :: xs, 0 => by simp [U.nth]
  | x :: xs, i + 1 => by simp [U.nth, nth_get xs i]
theorem nth_drop_take (xs : List U) (o n i : Nat) (h : i < n) : U.nth ((xs.drop o).take n) i = U.nth xs (o + i) := by
  rw [nth_get, nth_get, List.getElem?_take_of_lt h, List.getElem?_drop]
theorem len_ofL (b : Bool) (xs : List U) : (U.ofL b xs).len = xs.length := rfl
theorem get_ofL (b : Bool) (xs : List U) (i : Nat) : (U.ofL b xs).get i = U.nth xs i := rfl
theorem nil_ofL (b : Bool) (xs : List U) : (U.ofL b xs).isNil = b := rfl

/-- a slice: its cells in one view, what they mean in another -/
def RepSl2 (C : Ctx) (H V : View) (e : Nat) (u : U) (v : Value) : Prop :=
  (u.len = 0 ∧ u.isNil = true ∧ v = .slice none 0 0) ∨
  ∃ (a : Addr) (cap : Nat) (cs : Nat → List Value), v = .slice (some a) u.len cap ∧ u.isNil = false ∧ u.len ≤ cap ∧
    (∀ i, i < u.len → At V (a.add (i * C.sz e)) (cs i)) ∧ ∀ i, i < u.len → Rep C H e (cs i) (u.get i)
theorem RepSl2.one {H V : View} (hH : H.le V) {e : Nat} {u : U} {v : Value} (h : RepSl2 C H V e u v) : RepSl C V e u v := by
  rcases h with h | ⟨a, cap, cs, h1, h2, h3, h4, h5⟩
  · exact .inl h
  · exact .inr ⟨a, cap, cs, h1, h2, h3, h4, fun i hi => (h5 i hi).mono hH⟩
theorem RepSl.two {H V : View} (hH : H.le V) {e : Nat} {u : U} {v : Value} (h : RepSl C H e u v) : RepSl2 C H V e u v := by
  rcases h with h | ⟨a, cap, cs, h1, h2, h3, h4, h5⟩
  · exact .inl h
  · exact .inr ⟨a, cap, cs, h1, h2, h3, fun i hi => (h4 i hi).mono hH, h5⟩
/-- an own slice reads as a slice -/
theorem ow_repSl2 {H V : View} {ι : Own} {sto : Sto} {w : World} {id e : Nat} {z : Bool} {xs : List U} (hb : BlkOk C H ι sto w id) (hs : sto id = some (.arr e z xs))
    (hV : ∀ b o v, blkOf (ι id) = some b → w.cell? ⟨b, o, none⟩ = some v → V b o = some v)
    {r : Option (Nat × Nat)} {v : Value} (h : RepOw C ι sto id r v) : RepSl2 C H V e (owU z xs r) v := by
  obtain ⟨cs, k1, k2, k3, k4⟩ := hb.arr hs
  unfold RepOw at h
  rw [hs] at h
  have hat : ∀ {g cap : Nat}, ι id = .slice (some ⟨g, 0, none⟩) xs.length cap → ∀ i, At V ⟨g, i * C.sz e, none⟩ (chunk cs (C.sz e) i) := by
    intro g cap hi i
    rw [hi] at k1
    refine ⟨fun _ => rfl, fun j v hv => ?_⟩
    have := own_at k1 i j v hv
    rw [add_eq] at this
    exact hV _ _ _ (by rw [hi]; rfl) this
  have hcap : ∀ {g cap : Nat}, ι id = .slice (some ⟨g, 0, none⟩) xs.length cap → xs.length ≤ cap := by
    intro g cap hi
    rcases k1.2 with ⟨h1, _⟩ | ⟨g', cap', cur, h1, _, _, h2, _⟩
    · rw [hi] at h1; cases h1
    · rw [hi] at h1; cases h1; exact h2
  have hnn : ∀ {g cap : Nat}, ι id = .slice (some ⟨g, 0, none⟩) xs.length cap → (z && xs.isEmpty) = false := by
    intro g cap hi
    have : ¬ (z = true ∧ xs = []) := fun h => by rw [k3.2 h] at hi; cases hi
    cases z <;> cases xs <;> simp_all
  cases r with
  | none =>
    simp only at h
    subst h
    rcases own_slice k1 with ⟨h1, h2⟩ | ⟨g, cap, h1⟩
    · obtain ⟨rfl, rfl⟩ := k3.1 h1
      exact .inl ⟨rfl, rfl, h1⟩
    · refine .inr ⟨⟨g, 0, none⟩, cap, fun i => chunk cs (C.sz e) i, by simpa [owU, prt, len_ofL] using h1, hnn h1, hcap h1, ?_, ?_⟩
      · intro i hi
        rw [add_eq]; simpa using hat h1 i
      · intro i hi
        exact k2 i hi
  | some p =>
    obtain ⟨o, n⟩ := p
    simp only at h
    obtain ⟨h0, h⟩ := h
    have hlen : (owU z xs (some (o, n))).len = n := by simp [owU, prt, len_ofL]; omega
    rcases h with ⟨h1, rfl, rfl⟩ | ⟨g, cap, a, h1, rfl, h3, h4, h5⟩
    · obtain ⟨rfl, rfl⟩ := k3.1 h1
      exact .inl ⟨by rw [hlen], rfl, rfl⟩
    · refine .inr ⟨a, cap - o, fun i => chunk cs (C.sz e) (o + i), by rw [hlen], by simpa [owU, nil_ofL] using hnn h1, by rw [hlen]; have := hcap h1; omega, ?_, ?_⟩
      · intro i hi
        rw [hlen] at hi
        rcases h5 with h5 | h5
        · obtain ⟨b, of, sp⟩ := a
          simp at h3 h4 h5
          subst h3; subst h4; subst h5
          rw [add_eq, ← Nat.add_mul]
          exact hat h1 (o + i)
        · omega
      · intro i hi
        rw [hlen] at hi
        have : (owU z xs (some (o, n))).get i = U.nth xs (o + i) := by
          simp only [owU, prt, get_ofL]
          exact nth_drop_take xs o n i hi
        rw [this]
        exact k2 (o + i) (by omega)

theorem ow_repSlV {H V : View} {ι : Own} {sto : Sto} {w : World} (hH : H.le V) {id e : Nat} {z : Bool} {xs : List U} (hb : BlkOk C H ι sto w id) (hs : sto id = some (.arr e z xs))
    (hV : ∀ b o v, blkOf (ι id) = some b → w.cell? ⟨b, o, none⟩ = some v → V b o = some v)
    {r : Option (Nat × Nat)} {v : Value} (h : RepOw C ι sto id r v) : RepSl C V e (owU z xs r) v := (ow_repSl2 hb hs hV h).one hH
theorem ow_repSl {H : View} {ι : Own} {sto : Sto} {w : World} (hH : H.le (World.view w)) {id e : Nat} {z : Bool} {xs : List U} (hb : BlkOk C H ι sto w id) (hs : sto id = some (.arr e z xs))
    {r : Option (Nat × Nat)} {v : Value} (h : RepOw C ι sto id r v) : RepSl C (World.view w) e (owU z xs r) v := ow_repSlV hH hb hs (fun _ _ _ _ h => h) h

theorem RepSl.spot (ok : CtxOk P C) {H V : View} {e : Nat} {u : U} {a : Addr} {cap : Nat} {cs : Nat → List Value} (h : ∀ i, i < u.len → At V (a.add (i * C.sz e)) (cs i)) (hr : ∀ i, i < u.len → Rep C H e (cs i) (u.get i)) (h0 : 0 < u.len) : a.spot = none := by
  have h1 := h 0 h0
  have h2 := (hr 0 h0).length ok
  obtain ⟨ty, ht⟩ := (hr 0 h0).te
  have := ok.szpos ht
  have h3 := h1.1 (by intro e; rw [e] at h2; simp at h2; omega)
  simpa [Addr.add] using h3

/-- a part of a slice -/
theorem RepSl.sub (ok : CtxOk P C) {H : View} {e : Nat} {u : U} {v : Value} (r : RepSl C H e u v) {lo hi : Nat} (h1 : lo ≤ hi) (h2 : hi ≤ u.len) :
    ∃ (a : Option Addr) (cap : Nat), v = .slice a u.len cap ∧ u.len ≤ cap ∧ RepSl C H e (u.sub lo hi) (.slice (if cap = lo then a else a.map (·.add (lo * C.sz e))) (hi - lo) (cap - lo)) := by
  rcases r with ⟨k1, k2, rfl⟩ | ⟨a, cap, cs, rfl, k2, k3, k4, k5⟩
  · refine ⟨none, 0, by rw [k1], by omega, ?_⟩
    obtain rfl : hi = 0 := by omega
    obtain rfl : lo = 0 := by omega
    exact .inl ⟨rfl, k2, by simp⟩
  · refine ⟨some a, cap, rfl, k3, ?_⟩
    by_cases hc : cap = lo
    · have e0 : hi - lo = 0 := by omega
      refine .inr ⟨a, cap - lo, fun i => cs i, by simp [hc, U.sub, U.len], k2, by simp [U.sub, U.len]; omega, fun i hi' => ?_, fun i hi' => ?_⟩
      · simp [U.sub, U.len] at hi'; omega
      · simp [U.sub, U.len] at hi'; omega
    · refine .inr ⟨a.add (lo * C.sz e), cap - lo, fun i => cs (lo + i), by simp [hc, U.sub, U.len], k2, by simp [U.sub, U.len]; omega, fun i hi' => ?_, fun i hi' => ?_⟩
      · simp [U.sub, U.len] at hi'
        have hsp := RepSl.spot ok (cap := cap) k4 k5 (by omega)
        rw [add_add a hsp, ← Nat.add_mul]
        exact k4 (lo + i) (by omega)
      · simp [U.sub, U.len] at hi'
        exact k5 (lo + i) (by omega)

def vOpt (a : Act) (o : Option Operand) : Option Value := o.map a.eval
theorem run_bound {k : IntKind} {n : Int} {y : Nat} {c : BoundsCode} (h0 : 0 ≤ n) (h1 : n ≤ y) (w : World) : (Instr.sliceBound (.int k n) y c).run P w = .ok n.toNat w := by
  simp [Instr.sliceBound, asIntOf, h0, h1]
theorem optI_some {H : View} {ι : Own} {sto : Sto} {tm : Nat → Value} {a : Act} {ev : Operand → AV} (hev : ∀ x, RepS C H ι sto tm (ev x) (a.eval x)) {o : Option Operand} {l : Option Int} (h : optI ev o = some l) :
    (l = none ∧ o.map a.eval = none) ∨ ∃ k n, l = some n ∧ o.map a.eval = some (.int k n) := by
  cases o with
  | none => simp [optI] at h; exact .inl ⟨h.symm, rfl⟩
  | some o =>
    simp only [optI] at h
    split at h
    · rename_i k n he
      cases h
      have := hev o
      rw [he] at this
      exact .inr ⟨k, n, rfl, by simp; exact this⟩
    · cases h
theorem run_bounds {isS : Bool} {len cap : Nat} {l h : Option Int} {vl vh : Option Value} (hl : (l = none ∧ vl = none) ∨ ∃ k n, l = some n ∧ vl = some (.int k n)) (hh : (h = none ∧ vh = none) ∨ ∃ k n, h = some n ∧ vh = some (.int k n))
    (hc : len ≤ cap) (h0 : 0 ≤ l.getD 0) (h1 : l.getD 0 ≤ h.getD len) (h2 : h.getD len ≤ len) (w : World) :
    (Instr.sliceBounds isS len cap vl vh none).run P w = .ok ((l.getD 0).toNat, (h.getD len).toNat, cap) w := by
  unfold Instr.sliceBounds
  rcases hh with ⟨rfl, rfl⟩ | ⟨k, n, rfl, rfl⟩
  · simp only [Option.getD_none] at h1 h2 ⊢
    rcases hl with ⟨rfl, rfl⟩ | ⟨k, n, rfl, rfl⟩
    · simp
    · simp only [Option.getD_some] at h0 h1 ⊢
      simp only [Sem.run_bind, Sem.run_pure, Result.andThen_ok, run_bound h0 h1]
      simp
  · simp only [Option.getD_some] at h1 h2 ⊢
    have hn : n ≤ cap := by omega
    rcases hl with ⟨rfl, rfl⟩ | ⟨k', n', rfl, rfl⟩
    · simp only [Option.getD_none] at h1
      simp only [Sem.run_bind, Sem.run_pure, Result.andThen_ok, run_bound (show 0 ≤ n by omega) hn]
      simp
    · simp only [Option.getD_some] at h0 h1 ⊢
      simp only [Sem.run_bind, Sem.run_pure, Result.andThen_ok, run_bound (show 0 ≤ n by omega) hn, run_bound h0 (show n' ≤ n.toNat by omega)]

end Go.Ab
end
