/- Boxes and elements: what a path leads to. -/
import Derived.Test.YtegmhhojpngklaaAbOps4
namespace Go.Ab
open Go.RowKit
variable {C : Ctx} {P : Program}

theorem okPath.append : ∀ {t : Nat} {p : List Nat} {j : Nat}, okPath C t p → (∃ fs, C.te (ptype C t p) = some (.st fs) ∧ j < fs.length) → okPath C t (p ++ [j])
  | t, [], j, _, ⟨fs, h1, h2⟩ => ⟨fs, h1, h2, trivial⟩
  | t, i :: p, j, ⟨fs, h1, h2, h3⟩, h => ⟨fs, h1, h2, okPath.append h3 (by simpa [ptype, ftype, h1] using h)⟩
theorem poff_append : ∀ (t : Nat) (p : List Nat) (j : Nat) (fs : List Nat), C.te (ptype C t p) = some (.st fs) → poff C t (p ++ [j]) = poff C t p + fieldOff C fs j
  | t, [], j, fs, h => by simp only [ptype] at h; simp [poff, h]
  | t, i :: p, j, fs, h => by
    have := poff_append (ftype C t i) p j fs (by simpa [ptype] using h)
    simp only [List.cons_append, poff, this]
    omega

/-- what a path leads to, in a struct's cells -/
theorem Rep.path (ok : CtxOk P C) {H : View} : ∀ {p : List Nat} {t : Nat} {l : List Value} {u : U}, okPath C t p → Rep C H t l u →
    ∃ cs, Rep C H (ptype C t p) cs (u.path p) ∧ ∀ k v, cs[k]? = some v → l[poff C t p + k]? = some v
  | [], t, l, u, _, r => ⟨l, r, fun k v e => by simpa [poff] using e⟩
  | j :: p, t, l, u, ⟨fs, h1, h2, h3⟩, r => by
    obtain ⟨cs, r1, k1⟩ := r.field ok h1 h2
    obtain ⟨cs', r2, k2⟩ := Rep.path ok h3 r1
    have e : ftype C t j = nthN fs j := by simp [ftype, h1]
    refine ⟨cs', by simpa [ptype, e, U.path] using r2, fun k v hv => ?_⟩
    have := k1 _ _ (k2 k v hv)
    simp only [poff, h1, e]
    rwa [Nat.add_assoc]

theorem RepVs.length {H : View} {ι : Own} {sto : Sto} : ∀ {ts : List Nat} {xs : List AV} {l : List Value}, RepVs C H ι sto ts xs l → xs.length = ts.length ∧ l.length = (ts.map C.sz).sum
  | [], [], l, k => by obtain rfl : l = [] := k; simp
  | t :: ts, x :: xs, l, k => by
    obtain ⟨v, cs, l', h1, h2, h3, h4, h5, h6, h7⟩ := k
    obtain ⟨a, b⟩ := h7.length
    simp [h1, h2, a, b]
  | [], _ :: _, _, k => k.elim
  | _ :: _, [], _, k => k.elim
theorem RepVs.get {H : View} {ι : Own} {sto : Sto} : ∀ {ts : List Nat} {xs : List AV} {l : List Value} {j : Nat}, RepVs C H ι sto ts xs l → j < ts.length →
    ∃ v cs, IsVal C (nthN ts j) v cs ∧ cs.length = C.sz (nthN ts j) ∧ RepA C H ι sto (look xs j) v ∧ (∀ u, (look xs j).flat = some u → Rep C H (nthN ts j) cs u) ∧ ∀ k u, cs[k]? = some u → l[fieldOff C ts j + k]? = some u
  | t :: ts, x :: xs, l, 0, k, _ => by
    obtain ⟨v, cs, l', h1, h2, h3, h4, h5, h6, h7⟩ := k
    refine ⟨v, cs, h3, h2, h4, h6, fun k u e => ?_⟩
    subst h1
    simp only [fieldOff, List.take_zero, List.map_nil, List.sum_nil, Nat.zero_add]
    rw [List.getElem?_append_left (List.getElem?_eq_some_iff.1 e).1]
    exact e
  | t :: ts, x :: xs, l, j + 1, k, hj => by
    obtain ⟨v, cs, l', h1, h2, h3, h4, h5, h6, h7⟩ := k
    obtain ⟨v', cs', a, b, c, d, e⟩ := h7.get (j := j) (by simpa using hj)
    refine ⟨v', cs', a, b, c, d, fun k u hu => ?_⟩
    have := e k u hu
    subst h1
    rw [List.getElem?_append_right (by simp [fieldOff, h2]; omega)]
    rw [← this]
    congr 1
    simp [fieldOff, h2]
    omega
  | [], _, _, j, _, hj => by simp at hj
  | _ :: _, [], _, _, k, _ => k.elim
theorem RepVs.flat {H : View} {ι : Own} {sto : Sto} : ∀ {ts : List Nat} {xs : List AV} {l : List Value} {us : List U}, RepVs C H ι sto ts xs l → flats xs = some us →
    ∃ cs : Nat → List Value, l = (List.range ts.length).flatMap cs ∧ us.length = ts.length ∧ ∀ j, j < ts.length → Rep C H (nthN ts j) (cs j) (U.nth us j)
  | [], [], l, us, k, h => by
    obtain rfl : l = [] := k
    simp [flats] at h; subst h
    exact ⟨fun _ => [], by simp, rfl, fun j hj => by simp at hj⟩
  | t :: ts, x :: xs, l, us, k, h => by
    obtain ⟨v, cs, l', h1, h2, h3, h4, h5, h6, h7⟩ := k
    simp only [flats] at h
    cases hx : x.flat with
    | none => simp [hx] at h
    | some u =>
      cases hxs : flats xs with
      | none => simp [hx, hxs] at h
      | some us' =>
        simp [hx, hxs] at h; subst h
        obtain ⟨cs', e1, e2, e3⟩ := h7.flat hxs
        refine ⟨fun j => match j with | 0 => cs | j + 1 => cs' j, ?_, by simp [e2], ?_⟩
        · rw [h1, e1, List.length_cons, List.range_succ_eq_map, List.flatMap_cons, List.flatMap_map]
        · intro j hj
          cases j with
          | zero => exact h6 u hx
          | succ j => exact e3 j (by simpa using hj)
  | [], _ :: _, _, _, k, _ => k.elim
  | _ :: _, [], _, _, k, _ => k.elim

/-- the cells of a block -/
theorem cell_block {w : World} {g : Nat} {cur : Array Value} {t : Nat} {fz : Nat × Nat} (h : w.heap[g]? = some (.cells cur t fz)) (o : Nat) : w.cell? ⟨g, o, none⟩ = cur.toList[o]? := by
  simp [World.cell?, h]
theorem atW_block {w : World} {g : Nat} {cur : Array Value} {t : Nat} {fz : Nat × Nat} (h : w.heap[g]? = some (.cells cur t fz)) {o : Nat} {cs : List Value} (hk : ∀ k v, cs[k]? = some v → cur.toList[o + k]? = some v) :
    AtW w ⟨g, o, none⟩ cs := by
  intro j v e
  rw [add_eq, cell_block h]
  exact hk j v e
theorem AtW.sub {w : World} {g o : Nat} {l cs : List Value} {n : Nat} (h : AtW w ⟨g, o, none⟩ l) (hk : ∀ k v, cs[k]? = some v → l[n + k]? = some v) : AtW w ⟨g, o + n, none⟩ cs := by
  intro j v e
  have := h _ _ (hk j v e)
  rw [add_eq] at this ⊢
  rwa [Nat.add_assoc]
theorem chunk_get {cs : List Value} {n i k : Nat} {v : Value} (h : (chunk cs n i)[k]? = some v) : cs[i * n + k]? = some v := by
  unfold chunk at h
  have hk : k < n := by
    have := (List.getElem?_eq_some_iff.1 h).1
    simp at this; omega
  rw [List.getElem?_take_of_lt hk, List.getElem?_drop] at h
  exact h
/-- an element of an own slice, in memory -/
theorem own_at {w : World} {e size n : Nat} {g cap : Nat} {cs : List Value} (h : w.ownsRow 0 e size (.slice (some ⟨g, 0, none⟩) n cap) n cs) (i : Nat) : AtW w ⟨g, i * size, none⟩ (chunk cs size i) := by
  intro k v hv
  have := h.cells (g := g) rfl _ _ (chunk_get hv)
  rw [add_eq] at this ⊢
  simpa using this

end Go.Ab
