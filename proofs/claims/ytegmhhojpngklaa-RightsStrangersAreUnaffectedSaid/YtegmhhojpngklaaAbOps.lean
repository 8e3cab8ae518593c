/- The operations that leave the store alone. -/
import Derived.Test.YtegmhhojpngklaaAbSim
import Derived.Laws.Cells
namespace Go.Ab
open Go.RowKit
variable {C : Ctx} {P : Program}

theorem run_und {t : Nat} {d : TypeDesc} (h : P.underlying t = some d) (w : World) : (underlying t).run P w = .ok d w := by
  simp [underlying, h]
theorem run_info {t : Nat} {i : TypeInfo} (h : P.info? t = some i) (w : World) : (typeInfo t).run P w = .ok i w := by
  simp [typeInfo, h]
theorem CtxOk.sizeOf (ok : CtxOk P C) {t : Nat} {ty : Ty} (h : C.te t = some ty) (hn : ∀ e, ty ≠ .ptr e) (w : World) : (Go.sizeOf t).run P w = .ok (C.sz t) w := by
  obtain ⟨i, h1, h2⟩ := ok.size t ty h hn
  simp [Go.sizeOf, run_info h1, h2]
theorem notPtr {t : Nat} (h : isPtr C t = false) : ∃ ty, C.te t = some ty ∧ ∀ e, ty ≠ .ptr e := by
  unfold isPtr at h
  cases ht : C.te t with
  | none => simp [ht] at h
  | some ty => rw [ht] at h; refine ⟨ty, rfl, fun e he => ?_⟩; subst he; simp at h
theorem CtxOk.isAgg (ok : CtxOk P C) {t : Nat} {ty : Ty} (h : C.te t = some ty) (hn : ∀ e, ty ≠ .ptr e) (w : World) :
    (Go.isAgg t).run P w = .ok (match ty with | .st _ => true | _ => false) w := by
  have hu := ok.und t ty h
  cases ty with
  | st fs => obtain ⟨fds, h1, _⟩ := hu; simp [Go.isAgg, run_und h1]
  | fn ps r => obtain ⟨a, b, c, h1⟩ := hu; simp [Go.isAgg, run_und h1]
  | ptr e => exact (hn e rfl).elim
  | _ => simp [Go.isAgg, run_und hu]

/-- the cells from an address on, in a world -/
def AtW (w : World) (a : Addr) (cs : List Value) : Prop := ∀ j v, cs[j]? = some v → w.cell? (a.add j) = some v
theorem At.world {H : View} {w : World} (h : H.le (World.view w)) {a : Addr} {cs : List Value} (k : At H a cs) : AtW w a cs := by
  intro j v e
  have hs : a.spot = none := k.1 (by intro e'; simp [e'] at e)
  have := h _ _ _ (k.2 j v e)
  unfold Addr.add
  split
  · subst_vars
    obtain ⟨b, o, s⟩ := a
    simp at hs; subst hs
    simpa [World.view] using this
  · obtain ⟨b, o, s⟩ := a
    simpa [World.view] using this

theorem run_loadVar (ok : CtxOk P C) {t : Nat} (hp : isPtr C t = false) {v : Value} {cs : List Value} (hv : IsVal C t v cs) (hl : cs.length = C.sz t) {w : World} {a : Addr} (h : AtW w a cs) :
    (loadVar t a).run P w = .ok v w := by
  obtain ⟨ty, ht, hn⟩ := notPtr hp
  unfold loadVar
  rw [Sem.run_bind, ok.isAgg ht hn]
  unfold IsVal at hv
  rw [ht] at hv
  have hc : cs.length = C.sz t → (loadCells a (C.sz t)).run P w = .ok cs.toArray w := fun e => by
    rw [← e]; exact run_loadCells_list w a cs h
  cases ty with
  | st fs => simp only at hv; subst hv; simp [ok.sizeOf ht hn, hc hl]
  | ptr e => exact (hn e rfl).elim
  | _ =>
    simp only at hv; subst hv
    have := h 0 v rfl
    simp [Addr.add] at this
    simp [this]


theorem Rep.ofU {H : View} {ι : Own} {sto : Sto} {t : Nat} {cs : List Value} {u : U} (r : Rep C H t cs u) {v : Value} (hv : IsVal C t v cs) : RepA C H ι sto (ofU C t u) v := by
  unfold Ab.ofU
  unfold IsVal at hv
  cases r with
  | int h => rw [h] at hv ⊢; simp at hv; exact hv.symm
  | bool h => rw [h] at hv ⊢; simp at hv; exact hv.symm
  | str h => rw [h] at hv ⊢; simp at hv; exact hv.symm
  | nil h h0 hn => rw [h] at hv ⊢; simp at hv; exact .inl ⟨h0, hn, hv.symm⟩
  | @sl t e u a cap cs h hn hc ha hr => rw [h] at hv ⊢; simp at hv; exact .inr ⟨a, cap, cs, hv.symm, hn, hc, ha, hr⟩
  | @st t fs u l cs h hr hl => rw [h] at hv ⊢; exact ⟨_, fs, h, hv, .st cs h hr hl⟩
  | @fn t ps r u fi ad cs h hf hp hr ho hu hl ha hc =>
    rw [h] at hv ⊢
    simp at hv
    exact ⟨⟨_, _, h⟩, hv ▸ .fn ad cs h hf hp hr ho hu hl ha hc⟩
  | @ptr t e u a cs h hs ha hr => rw [h] at hv ⊢; simp at hv; exact ⟨a, cs, hv.symm, hs, ha, hr⟩

theorem isVal_one {t : Nat} {v : Value} (h : ∀ fs, C.te t ≠ some (.st fs)) : IsVal C t v [v] := by
  unfold IsVal
  split
  · rename_i fs h'; exact (h _ h').elim
  · rfl
theorem Rep.isVal {H : View} {t : Nat} {cs : List Value} {u : U} (r : Rep C H t cs u) : ∃ v, IsVal C t v cs := by
  by_cases h : ∃ fs, C.te t = some (.st fs)
  · obtain ⟨fs, h⟩ := h
    exact ⟨.agg cs.toArray, by simp [IsVal, h]⟩
  · obtain ⟨v, h1, _⟩ := r.one (fun fs hf => h ⟨fs, hf⟩)
    exact ⟨v, h1 ▸ isVal_one (fun fs hf => h ⟨fs, hf⟩)⟩

theorem RepA.flat {H : View} {ι : Own} {sto : Sto} {t : Nat} {x : AV} {v : Value} {u : U} (h : RepA C H ι sto x v) (hf : fitsT C t x = true) (hu : x.flat = some u) :
    ∃ cs, IsVal C t v cs ∧ Rep C H t cs u := by
  unfold fitsT at hf
  cases ht : C.te t with
  | none => simp [ht] at hf
  | some ty =>
    rw [ht] at hf
    have one : (∀ fs, ty ≠ .st fs) → IsVal C t v [v] := fun hs => isVal_one (fun fs e => hs fs (by rw [ht] at e; simpa using e))
    cases ty with
    | int k =>
      cases x <;> simp [AV.flat] at hf hu
      subst hf; subst hu
      exact ⟨[v], one (by simp), by rw [show v = _ from h]; exact .int (u := .I _) ht⟩
    | bool =>
      cases x <;> simp [AV.flat] at hf hu
      subst hu
      exact ⟨[v], one (by simp), by rw [show v = _ from h]; exact .bool (u := .B _) ht⟩
    | str =>
      cases x <;> simp [AV.flat] at hf hu
      subst hu
      exact ⟨[v], one (by simp), by rw [show v = _ from h]; exact .str (u := .S _) ht⟩
    | sl e =>
      cases x <;> simp [AV.flat, nbeq] at hf hu
      · subst hu
        exact ⟨[v], one (by simp), by rw [show v = _ from h]; exact .nil ht rfl rfl⟩
      · subst hf; subst hu
        exact ⟨[v], one (by simp), RepSl.rep ht h⟩
    | st fs =>
      cases x <;> simp [AV.flat, nbeq] at hf hu
      subst hf; subst hu
      obtain ⟨cs, fs', h1, h2, h3⟩ := h
      exact ⟨cs, by simp [IsVal, ht, h2], h3⟩
    | fn ps r => cases x <;> simp at hf
    | ptr e => cases x <;> simp at hf

theorem sum_range_take (fs : List Nat) (f : Nat → Nat) (j : Nat) (h : j ≤ fs.length) : ((List.range j).map fun i => f (nthN fs i)).sum = ((fs.take j).map f).sum := by
  congr 1
  apply List.ext_getElem
  · simp; omega
  · intro i h1 h2
    simp at h1
    simp [nthN_get (show i < fs.length by omega)]
theorem flatMap_at {α : Type} (cs : Nat → List α) : ∀ (n j : Nat), j < n → ∀ k v, (cs j)[k]? = some v → ((List.range n).flatMap cs)[((List.range j).map fun i => (cs i).length).sum + k]? = some v
  | 0, j, h, _, _, _ => by omega
  | n + 1, j, h, k, v, e => by
    rw [List.range_succ, List.flatMap_append]
    by_cases hj : j < n
    · have := flatMap_at cs n j hj k v e
      rw [List.getElem?_append_left (List.getElem?_eq_some_iff.1 this).1]
      exact this
    · obtain rfl : j = n := by omega
      rw [List.getElem?_append_right (by rw [flatMap_length]; omega), flatMap_length]
      simpa using e

/-- a field of a struct in memory -/
theorem Rep.field (ok : CtxOk P C) {H : View} {t : Nat} {fs : List Nat} {l : List Value} {u : U} (ht : C.te t = some (.st fs)) (r : Rep C H t l u) {j : Nat} (hj : j < fs.length) :
    ∃ cs, Rep C H (nthN fs j) cs (u.get j) ∧ ∀ k v, cs[k]? = some v → l[fieldOff C fs j + k]? = some v := by
  cases r with
  | @st t fs' u l cs h hr hl =>
    rw [h] at ht
    obtain rfl : fs' = fs := by simpa using ht
    refine ⟨cs j, hr j hj, fun k v e => ?_⟩
    have := flatMap_at cs fs'.length j hj k v e
    rw [hl]
    rw [show fieldOff C fs' j = ((List.range j).map fun i => (cs i).length).sum by
      unfold fieldOff
      rw [← sum_range_take fs' C.sz j (by omega)]
      congr 1
      apply List.map_congr_left
      intro i hi
      simp at hi
      exact ((hr i (by omega)).length ok).symm]
    exact this
  | _ => simp_all
theorem add_add (a : Addr) (h : a.spot = none) (m n : Nat) : (a.add m).add n = a.add (m + n) := by
  unfold Addr.add
  obtain ⟨b, o, s⟩ := a
  simp at h; subst h
  by_cases h1 : m = 0 <;> by_cases h2 : n = 0 <;> simp [h1, h2]
  omega
theorem add_eq (b o n : Nat) : (⟨b, o, none⟩ : Addr).add n = ⟨b, o + n, none⟩ := by
  unfold Addr.add; split <;> simp_all
theorem spot_add (a : Addr) (h : a.spot = none) (n : Nat) : (a.add n).spot = none := by
  unfold Addr.add; split <;> simp [h]
theorem At.sub {H : View} {a : Addr} {l cs : List Value} {n : Nat} (hs : a.spot = none) (h : At H a l) (hk : ∀ k v, cs[k]? = some v → l[n + k]? = some v) : At H (a.add n) cs := by
  refine ⟨fun _ => spot_add a hs n, fun j v e => ?_⟩
  have := h.2 _ _ (hk j v e)
  obtain ⟨b, o, s⟩ := a
  simp at hs; subst hs
  rw [add_eq]
  simpa [Nat.add_assoc] using this

end Go.Ab
