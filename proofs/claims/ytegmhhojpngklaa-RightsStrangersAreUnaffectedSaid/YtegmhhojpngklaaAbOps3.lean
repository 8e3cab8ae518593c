/- Structs: parts, equality. -/
import Derived.Test.YtegmhhojpngklaaAbOps2
import Derived.Laws.StructEq
namespace Go.Ab
open Go.RowKit
variable {C : Ctx} {P : Program}

theorem seg_eq {l cs : List Value} {off : Nat} (hk : ∀ k v, cs[k]? = some v → l[off + k]? = some v) : (l.drop off).take cs.length = cs := by
  apply List.ext_getElem?
  intro k
  by_cases h : k < cs.length
  · rw [List.getElem?_take_of_lt h, List.getElem?_drop, List.getElem?_eq_getElem h]
    exact hk k _ (List.getElem?_eq_getElem h)
  · rw [List.getElem?_eq_none (by simp; omega), List.getElem?_eq_none (by omega)]
theorem isPtr_of {t : Nat} {ty : Ty} (h : C.te t = some ty) (hn : ∀ e, ty ≠ .ptr e) : isPtr C t = false := by
  unfold isPtr
  rw [h]
  cases ty with
  | ptr e => exact (hn e rfl).elim
  | _ => rfl
theorem run_part (ok : CtxOk P C) {t : Nat} (hp : isPtr C t = false) {v : Value} {cs l : List Value} (hv : IsVal C t v cs) (hl : cs.length = C.sz t) {off : Nat} (hk : ∀ k v, cs[k]? = some v → l[off + k]? = some v) (w : World) :
    (Go.part t l.toArray off).run P w = .ok v w := by
  obtain ⟨ty, ht, hn⟩ := notPtr hp
  unfold Go.part
  rw [Sem.run_bind, ok.isAgg ht hn]
  unfold IsVal at hv
  rw [ht] at hv
  cases ty with
  | st fs =>
    simp only at hv; subst hv
    have := seg_eq hk
    rw [hl] at this
    simp [ok.sizeOf ht hn, List.extract_toArray, List.extract_eq_take_drop, this]
  | ptr e => exact (hn e rfl).elim
  | _ =>
    simp only at hv; subst hv
    have := hk 0 v rfl
    simp at this
    simp [this]

theorem CtxOk.fds (ok : CtxOk P C) {t : Nat} {fs : List Nat} (h : C.te t = some (.st fs)) : P.underlying t = some (.struct (P.fieldsOf t)) ∧ (P.fieldsOf t).toList.map (·.type) = fs ∧
    (∀ (j : Nat) fd, (P.fieldsOf t)[j]? = some fd → fd.offset = fieldOff C fs j ∧ fd.name ≠ "_") ∧ P.stoodInHeld t = false ∧ P.eqGuardType P.depth t = false := by
  obtain ⟨fds, h1, h2, h3, h4, h5⟩ := ok.und t _ h
  have e : P.fieldsOf t = fds := by simp [Program.fieldsOf, h1]
  rw [e]
  exact ⟨h1, h2, h3, h4, h5⟩

theorem eqFields_sound (ok : CtxOk P C) (d D : Nat) (ih : ∀ (t : Nat) (x y : Value) (cs cs' : List Value) (u u' : U) (H H' : View), cmpT C d t = true → Rep C H t cs u → Rep C H' t cs' u' → IsVal C t x cs → IsVal C t y cs' → ∀ w, (Op.equalIn D t x y).run P w = .ok (eqU C d t u u') w)
    {t : Nat} {fs : List Nat} (ht : C.te t = some (.st fs)) {cs cs' : List Value} {u u' : U} {H H' : View} (r : Rep C H t cs u) (r' : Rep C H' t cs' u') (w : World) (hc : fs.all (cmpT C d) = true) :
    ∀ (fds : List Field) (gs : List Nat) (j : Nat), j + gs.length = fs.length → (∀ i, i < gs.length → nthN gs i = nthN fs (j + i)) → fds.map (·.type) = gs → (∀ (i : Nat) fd, fds[i]? = some fd → fd.offset = fieldOff C fs (j + i) ∧ fd.name ≠ "_") →
      (Op.eqFields D cs.toArray cs'.toArray fds).run P w = .ok (((gs.zipIdx j).map fun p => eqU C d p.1 (u.get p.2) (u'.get p.2)).foldr (· && ·) true) w
  | [], gs, j, _, _, hg, _ => by
    obtain rfl : gs = [] := by simpa using hg.symm
    simp [Op.eqFields]
  | fd :: fds, gs, j, hlen, hn, hg, hf => by
    cases gs with
    | nil => simp at hg
    | cons g gs =>
      simp only [List.map_cons, List.cons.injEq] at hg
      obtain ⟨hg1, hg2⟩ := hg
      obtain ⟨ho, hna⟩ := hf 0 fd rfl
      have hjl : j < fs.length := by simp at hlen; omega
      have hgj : g = nthN fs j := by simpa [nthN] using hn 0 (by simp)
      obtain ⟨c1, r1, k1⟩ := r.field ok ht hjl
      obtain ⟨c2, r2, k2⟩ := r'.field ok ht hjl
      rw [← hgj] at r1 r2
      have hcg : cmpT C d g = true := by
        have := List.all_eq_true.1 hc (nthN fs j) (nthN_mem hjl)
        rwa [← hgj] at this
      obtain ⟨ty, hty, hnp⟩ := ok.fields t fs g ht (hgj ▸ nthN_mem hjl)
      obtain ⟨v1, hv1⟩ := r1.isVal
      obtain ⟨v2, hv2⟩ := r2.isVal
      have p1 := run_part ok (isPtr_of hty hnp) hv1 (r1.length ok) (l := cs) (off := fieldOff C fs j) k1 w
      have p2 := run_part ok (isPtr_of hty hnp) hv2 (r2.length ok) (l := cs') (off := fieldOff C fs j) k2 w
      have he := ih g v1 v2 c1 c2 _ _ H H' hcg r1 r2 hv1 hv2 w
      have ihr := eqFields_sound ok d D ih ht r r' w hc fds gs (j + 1) (by simp at hlen; omega) (fun i hi => by have := hn (i + 1) (by simp; omega); simpa [nthN, Nat.add_assoc, Nat.add_comm 1 i] using this) hg2
        (fun i fd' hi => by have := hf (i + 1) fd' (by simpa using hi); simpa [Nat.add_assoc, Nat.add_comm 1 i] using this)
      simp only [Op.eqFields, hna, ne_eq, not_false_eq_true, if_true, hg1, ho, Nat.add_zero, Sem.run_bind, p1, p2, he, Result.andThen_ok, List.zipIdx_cons, List.map_cons, List.foldr_cons]
      cases eqU C d g (u.get j) (u'.get j)
      · simp
      · simp [ihr]

theorem equal_sound (ok : CtxOk P C) : ∀ (d D : Nat), d ≤ D → ∀ (t : Nat) (x y : Value) (cs cs' : List Value) (u u' : U) (H H' : View), cmpT C d t = true → Rep C H t cs u → Rep C H' t cs' u' → IsVal C t x cs → IsVal C t y cs' →
    ∀ w, (Op.equalIn D t x y).run P w = .ok (eqU C d t u u') w
  | 0, _, _, _, _, _, _, _, _, _, _, _, h, _, _, _, _, _ => by simp [cmpT] at h
  | d + 1, D, hD, t, x, y, cs, cs', u, u', H, H', h, r, r', hx, hy, w => by
    obtain ⟨D, rfl⟩ : ∃ m, D = m + 1 := ⟨D - 1, by omega⟩
    unfold cmpT at h
    unfold eqU
    unfold IsVal at hx hy
    cases ht : C.te t with
    | none => simp [ht] at h
    | some ty =>
      rw [ht] at h hx hy
      have hu := ok.und t ty ht
      cases ty with
      | int k =>
        cases r with
        | int h1 =>
          rw [ht] at h1; cases h1
          cases r' with
          | int h2 =>
            rw [ht] at h2; cases h2
            simp only at hx hy
            simp at hx hy
            subst hx; subst hy
            rw [run_equalIn_int w D t _ _ _ _ hu]
            congr 1
          | _ => simp_all
        | _ => simp_all
      | bool =>
        cases r with
        | bool h1 =>
          cases r' with
          | bool h2 =>
            simp at hx hy
            subst hx; subst hy
            rw [run_equalIn_bool' w D t _ _ hu]
          | _ => simp_all
        | _ => simp_all
      | str =>
        cases r with
        | str h1 =>
          cases r' with
          | str h2 =>
            simp at hx hy
            subst hx; subst hy
            rw [run_equalIn_string w D t _ _ hu, toList_str, toList_str]
            congr 1
            by_cases e : u.toS = u'.toS <;> simp [e]
          | _ => simp_all
        | _ => simp_all
      | st fs =>
        simp only at hx hy h
        subst hx; subst hy
        obtain ⟨f1, f2, f3, f4, _⟩ := ok.fds ht
        rw [run_equalIn_struct w D t _ _ f1 f4]
        exact eqFields_sound ok d D (fun t x y cs cs' u u' H H' a b c e g w => equal_sound ok d D (by omega) t x y cs cs' u u' H H' a b c e g w) ht r r' w h _ fs 0 (by simp)
          (fun i _ => by simp) f2 (fun i fd hi => by simpa using f3 i fd (by simpa using hi))
      | _ => simp at h

end Go.Ab
