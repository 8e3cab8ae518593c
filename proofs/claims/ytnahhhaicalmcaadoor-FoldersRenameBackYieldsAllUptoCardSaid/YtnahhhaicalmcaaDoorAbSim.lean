/- How what is known of a state goes on through the steps of a call. -/
import Derived.Test.YtnahhhaicalmcaaDoorAbRep
set_option linter.unusedVariables false
set_option linter.unusedSimpArgs false
namespace Go.Ab
open Go.RowKit

variable {C : Ctx} {P : Program}

theorem nbeq (a b : Nat) : Nat.beq a b = decide (a = b) := by
  by_cases h : a = b
  · subst h; simp
  · cases hb : Nat.beq a b with
    | true => exact absurd (Nat.eq_of_beq_eq_true hb) h
    | false => simp [h]

def StoLe (ι : Own) (sto : Sto) (ι' : Own) (sto' : Sto) : Prop :=
  ∀ id, match sto id with
    | none => True
    | some .dead => sto' id = some .dead
    | some (.arr e _ xs) => sto' id = some .dead ∨ (ι' id = ι id ∧ ∃ z' xs', sto' id = some (.arr e z' xs') ∧ xs'.length = xs.length)
    | some (.box t _) => sto' id = some .dead ∨ (ι' id = ι id ∧ ∃ vs', sto' id = some (.box t vs'))
    | some (.mp t _) => sto' id = some .dead ∨ (ι' id = ι id ∧ ∃ us', sto' id = some (.mp t us'))
theorem StoLe.refl (ι : Own) (sto : Sto) : StoLe ι sto ι sto := by
  intro id
  split
  · trivial
  · assumption
  · exact .inr ⟨rfl, _, _, by assumption, rfl⟩
  · exact .inr ⟨rfl, _, by assumption⟩
  · exact .inr ⟨rfl, _, by assumption⟩

theorem StoLe.trans {ι ι' ι'' : Own} {s s' s'' : Sto} (h : StoLe ι s ι' s') (k : StoLe ι' s' ι'' s'') : StoLe ι s ι'' s'' := by
  intro id
  have h1 := h id
  have k1 := k id
  cases hs : s id with
  | none => trivial
  | some b =>
    rw [hs] at h1
    cases b with
    | dead => simp only at h1; rw [h1] at k1; exact k1
    | arr e z xs =>
      simp only at h1
      rcases h1 with h1 | ⟨e1, z', xs', e2, e3⟩
      · rw [h1] at k1; exact .inl k1
      · rw [e2] at k1
        rcases k1 with k1 | ⟨e4, z'', xs'', e5, e6⟩
        · exact .inl k1
        · exact .inr ⟨e4.trans e1, z'', xs'', e5, e6.trans e3⟩
    | box t vs =>
      simp only at h1
      rcases h1 with h1 | ⟨e1, vs', e2⟩
      · rw [h1] at k1; exact .inl k1
      · rw [e2] at k1
        rcases k1 with k1 | ⟨e4, vs'', e5⟩
        · exact .inl k1
        · exact .inr ⟨e4.trans e1, vs'', e5⟩
    | mp t us =>
      simp only at h1
      rcases h1 with h1 | ⟨e1, us', e2⟩
      · rw [h1] at k1; exact .inl k1
      · rw [e2] at k1
        rcases k1 with k1 | ⟨e4, us'', e5⟩
        · exact .inl k1
        · exact .inr ⟨e4.trans e1, us'', e5⟩

theorem RepOw.mono {ι ι' : Own} {sto sto' : Sto} (h : StoLe ι sto ι' sto') {id : Nat} {r : Option (Nat × Nat)} {v : Value} (k : RepOw C ι sto id r v) : RepOw C ι' sto' id r v := by
  have hi := h id
  unfold RepOw at k ⊢
  cases hs : sto id with
  | none => rw [hs] at k; exact k.elim
  | some b =>
    rw [hs] at k hi
    cases b with
    | dead => simp only at hi; rw [hi]; trivial
    | box t vs => exact k.elim
    | mp t us => exact k.elim
    | arr e z xs =>
      simp only at hi k
      rcases hi with hi | ⟨e1, z', xs', e2, e3⟩
      · rw [hi]; trivial
      · rw [e2]
        simp only
        cases r with
        | none => simpa [e1] using k
        | some p => obtain ⟨o, n⟩ := p; simpa [e1, e3] using k
theorem RepPb.mono {ι ι' : Own} {sto sto' : Sto} (h : StoLe ι sto ι' sto') {id : Nat} {p : List Nat} {v : Value} (k : RepPb C ι sto id p v) : RepPb C ι' sto' id p v := by
  have hi := h id
  unfold RepPb at k ⊢
  cases hs : sto id with
  | none => rw [hs] at k; exact k.elim
  | some b =>
    rw [hs] at k hi
    cases b with
    | dead => simp only at hi; rw [hi]; trivial
    | arr e z xs => exact k.elim
    | mp t us => exact k.elim
    | box t vs =>
      simp only at hi k
      rcases hi with hi | ⟨e1, vs', e2⟩
      · rw [hi]; trivial
      · rw [e2]; simpa [e1] using k
theorem RepPe.mono {ι ι' : Own} {sto sto' : Sto} (h : StoLe ι sto ι' sto') {id idx : Nat} {p : List Nat} {v : Value} (k : RepPe C ι sto id idx p v) : RepPe C ι' sto' id idx p v := by
  have hi := h id
  unfold RepPe at k ⊢
  cases hs : sto id with
  | none => rw [hs] at k; exact k.elim
  | some b =>
    rw [hs] at k hi
    cases b with
    | dead => simp only at hi; rw [hi]; trivial
    | box t vs => exact k.elim
    | mp t us => exact k.elim
    | arr e z xs =>
      simp only at hi k
      rcases hi with hi | ⟨e1, z', xs', e2, e3⟩
      · rw [hi]; trivial
      · rw [e2]; simpa [e1, e3] using k
theorem RepMp.mono {ι ι' : Own} {sto sto' : Sto} (h : StoLe ι sto ι' sto') {id : Nat} {v : Value} (k : RepMp ι sto id v) : RepMp ι' sto' id v := by
  have hi := h id
  unfold RepMp at k ⊢
  cases hs : sto id with
  | none => rw [hs] at k; exact k.elim
  | some b =>
    rw [hs] at k hi
    cases b with
    | dead => simp only at hi; rw [hi]; trivial
    | arr e z xs => exact k.elim
    | box t vs => exact k.elim
    | mp t us =>
      simp only at hi k
      rcases hi with hi | ⟨e1, us', e2⟩
      · rw [hi]; trivial
      · rw [e2]; simpa [e1] using k
theorem RepM.mono {H H' : View} (hH : H.le H') {vt : Nat} : ∀ {us : List U} {es : List MapEntry}, RepM C H vt us es → RepM C H' vt us es
  | [], [], _ => trivial
  | u :: us, e :: es, k => ⟨k.1, let ⟨cs, h1, h2⟩ := k.2.1; ⟨cs, h1, h2.mono hH⟩, RepM.mono hH k.2.2⟩
  | [], _ :: _, k => k.elim
  | _ :: _, [], k => k.elim
theorem RepCap.mono {H H' : View} (hH : H.le H') {ι ι' : Own} {sto sto' : Sto} (h : StoLe ι sto ι' sto') {c : Cap} {v : Value} (k : RepCap C H ι sto c v) : RepCap C H' ι' sto' c v := by
  cases c with
  | own id => exact RepPb.mono h k
  | ro t u => exact RepPtr.mono hH k
theorem RepCaps.mono {H H' : View} (hH : H.le H') {ι ι' : Own} {sto sto' : Sto} (h : StoLe ι sto ι' sto') : ∀ {cs : List Cap} {vs : List Value}, RepCaps C H ι sto cs vs → RepCaps C H' ι' sto' cs vs
  | [], [], _ => trivial
  | c :: cs, v :: vs, k => ⟨k.1.mono hH h, RepCaps.mono hH h k.2⟩
  | [], _ :: _, k => k.elim
  | _ :: _, [], k => k.elim
theorem RepTup.mono {H H' : View} (hH : H.le H') {ι ι' : Own} {sto sto' : Sto} (h : StoLe ι sto ι' sto') {u : U} : ∀ {ts : List (Nat × Option Nat)} {vs : List Value} {j : Nat}, RepTup C H ι sto u ts vs j → RepTup C H' ι' sto' u ts vs j
  | [], [], _, _ => trivial
  | (t, none) :: ts, v :: vs, j, k => ⟨let ⟨cs, h1, h2⟩ := k.1; ⟨cs, h1, h2.mono hH⟩, RepTup.mono hH h k.2⟩
  | (t, some id) :: ts, v :: vs, j, k => ⟨k.1.mono h, RepTup.mono hH h k.2⟩
  | [], _ :: _, _, k => k.elim
  | p :: _, [], _, k => by obtain ⟨t, o⟩ := p; cases o <;> exact False.elim k
theorem RepA.mono {H H' : View} (hH : H.le H') {ι ι' : Own} {sto sto' : Sto} (h : StoLe ι sto ι' sto') {x : AV} {v : Value} (k : RepA C H ι sto x v) : RepA C H' ι' sto' x v := by
  cases x with
  | sl e u => exact RepSl.mono hH k
  | st t u => obtain ⟨cs, fs, h1, h2, h3⟩ := k; exact ⟨cs, fs, h1, h2, h3.mono hH⟩
  | fn t u => exact ⟨k.1, k.2.mono hH⟩
  | clo f caps => obtain ⟨vs, h1, h2⟩ := k; exact ⟨vs, h1, h2.mono hH h⟩
  | ow id r => exact RepOw.mono h k
  | pb id p => exact RepPb.mono h k
  | pe id idx p => exact RepPe.mono h k
  | rp t u => exact RepPtr.mono hH k
  | tup ts u => obtain ⟨vs, h1, h2⟩ := k; exact ⟨vs, h1, h2.mono hH h⟩
  | mp id => exact RepMp.mono h k
  | _ => exact k
theorem RepS.eq {H : View} {ι : Own} {sto : Sto} {tm : Nat → Value} {x : AV} {v : Value} (h : isCv x = false) : RepS C H ι sto tm x v = RepA C H ι sto x v := by
  cases x <;> first | rfl | (simp [isCv] at h)
theorem RepS.mono {H H' : View} (hH : H.le H') {ι ι' : Own} {sto sto' : Sto} (h : StoLe ι sto ι' sto') {tm : Nat → Value} {x : AV} {v : Value} (k : RepS C H ι sto tm x v) : RepS C H' ι' sto' tm x v := by
  cases hc : isCv x with
  | true =>
    cases x with
    | cv j w x => exact ⟨fun e => (k.1 e).mono hH h, k.2⟩
    | _ => simp [isCv] at hc
  | false => rw [RepS.eq hc] at k ⊢; exact k.mono hH h
theorem RepS.of {H : View} {ι : Own} {sto : Sto} {tm : Nat → Value} {x : AV} {v : Value} (k : RepA C H ι sto x v) : RepS C H ι sto tm x v := by
  cases hc : isCv x with
  | true =>
    cases x with
    | cv j w x => exact k.elim
    | _ => simp [isCv] at hc
  | false => rw [RepS.eq hc]; exact k
theorem RepVs.mono {H H' : View} (hH : H.le H') {ι ι' : Own} {sto sto' : Sto} (h : StoLe ι sto ι' sto') : ∀ {ts : List Nat} {xs : List AV} {l : List Value}, RepVs C H ι sto ts xs l → RepVs C H' ι' sto' ts xs l
  | [], [], _, k => k
  | t :: ts, x :: xs, l, k => by
    obtain ⟨v, cs, l', h1, h2, h3, h4, h5, h6, h7⟩ := k
    exact ⟨v, cs, l', h1, h2, h3, h4.mono hH h, h5, fun u hu => (h6 u hu).mono hH, h7.mono hH h⟩
  | [], _ :: _, _, k => k.elim
  | _ :: _, [], _, k => k.elim

theorem live_arr {sto : Sto} {id e : Nat} {z : Bool} {xs : List U} (h : sto id = some (.arr e z xs)) : live sto id := by simp [live, h]
theorem live_mp {sto : Sto} {id t : Nat} {us : List U} (h : sto id = some (.mp t us)) : live sto id := by simp [live, h]
theorem live_box {sto : Sto} {id t : Nat} {vs : List AV} (h : sto id = some (.box t vs)) : live sto id := by simp [live, h]

/-- the block of an own value, where it has one, is there -/
theorem BlkOk.lt {H : View} {ι : Own} {sto : Sto} {w : World} {id b : Nat} (h : BlkOk C H ι sto w id) (hl : live sto id) (hb : blkOf (ι id) = some b) : b < w.heap.size := by
  unfold BlkOk at h
  unfold live at hl
  cases hs : sto id with
  | none => simp [hs] at hl
  | some x =>
    cases x with
    | dead => simp [hs] at hl
    | arr e z xs =>
      rw [hs] at h
      obtain ⟨cs, h1, _⟩ := h
      rcases h1.2 with ⟨h2, _⟩ | ⟨g, cap, cur, h2, _, h3, _⟩
      · simp [h2, blkOf] at hb
      · simp [h2, blkOf] at hb; subst hb; exact (Array.getElem?_eq_some_iff.1 h3).1
    | box t vs =>
      rw [hs] at h
      obtain ⟨g, cur, h2, h3, _⟩ := h
      simp [h2, blkOf] at hb; subst hb; exact (Array.getElem?_eq_some_iff.1 h3).1
    | mp t us =>
      rw [hs] at h
      obtain ⟨g, es, clock, kt, vt, bt, h2, h3, _⟩ := h
      simp [h2, blkOf] at hb; subst hb; exact (Array.getElem?_eq_some_iff.1 h3).1

/-- the block of an own value is one of cells, or a map -/
theorem BlkOk.cells {H : View} {ι : Own} {sto : Sto} {w : World} {id b : Nat} (h : BlkOk C H ι sto w id) (hl : live sto id) (hb : blkOf (ι id) = some b) : ∃ o, w.heap[b]? = some o ∧ ownable o = true := by
  unfold BlkOk at h
  unfold live at hl
  cases hs : sto id with
  | none => simp [hs] at hl
  | some x =>
    cases x with
    | dead => simp [hs] at hl
    | arr e z xs =>
      rw [hs] at h
      obtain ⟨cs, h1, _⟩ := h
      rcases h1.2 with ⟨h2, _⟩ | ⟨g, cap, cur, h2, _, h3, _⟩
      · simp [h2, blkOf] at hb
      · simp [h2, blkOf] at hb; subst hb; exact ⟨_, h3, rfl⟩
    | box t vs =>
      rw [hs] at h
      obtain ⟨g, cur, h2, h3, _⟩ := h
      simp [h2, blkOf] at hb; subst hb; exact ⟨_, h3, rfl⟩
    | mp t us =>
      rw [hs] at h
      obtain ⟨g, es, clock, kt, vt, bt, h2, h3, _⟩ := h
      simp [h2, blkOf] at hb; subst hb; exact ⟨_, h3, rfl⟩

theorem view_le {f : Fr} {ι ι' : Own} {sto sto' : Sto} {w w' : World} (hs : f.w0.heap.size ≤ w.heap.size)
    (hA : ∀ id b, live sto' id → blkOf (ι' id) = some b → b < w.heap.size → ∃ id', live sto id' ∧ blkOf (ι id') = some b)
    (hB : ∀ b, b < w.heap.size → (∀ id, live sto id → blkOf (ι id) ≠ some b) → w'.heap[b]? = w.heap[b]?) (hf : FrOk f) :
    (view f ι sto w).le (view f ι' sto' w') := by
  intro b o v e
  unfold view at e ⊢
  split at e
  · cases e
  · rename_i hn
    have hlt : b < w.heap.size := by
      split at e
      · rename_i h; have := h.1; omega
      · exact World.block_lt_of_cell? w _ e
    have hn' : ¬ ∃ id, live sto' id ∧ blkOf (ι' id) = some b := by
      rintro ⟨id, h1, h2⟩
      exact hn (let ⟨i, a, b⟩ := hA id b h1 h2 hlt; ⟨i, a, b⟩)
    rw [if_neg hn']
    split at e
    · rename_i hb; rw [if_pos hb]; exact e
    · rename_i hb
      rw [if_neg hb]
      have := hB b hlt (fun id h1 h2 => hn ⟨id, h1, h2⟩)
      rw [show w'.cell? ⟨b, o, none⟩ = w.cell? ⟨b, o, none⟩ from World.cell?_of_block this]
      exact e

/-- the view is a part of the world -/
theorem view_sub {f : Fr} (hf : FrOk f) {ι : Own} {sto : Sto} {w : World} (hk : Keep f.O f.w0 w) : (view f ι sto w).le (World.view w) := by
  intro b o v e
  unfold view at e
  split at e
  · cases e
  · split at e
    · rename_i hb
      have h0 := hf.le b o v e
      show w.cell? _ = _
      rw [World.cell?_of_block (w := f.w0) (hk.block b hb.1 hb.2)]
      exact h0
    · exact e

theorem Sim.vle {f : Fr} (hf : FrOk f) {ι : Own} {st : St} {a : Act} {w : World} (s : Sim C f ι st a w) : (view f ι st.sto w).le (World.view w) := view_sub hf s.keep

theorem look_setl : ∀ (l : List AV) (d t : Nat) (v : AV), look (setl l d v) t = if t = d then (if d < l.length then v else .junk) else look l t
  | [], d, t, v => by simp [setl, look]
  | a :: l, 0, t, v => by cases t <;> simp [setl, look]
  | a :: l, d + 1, t, v => by
    cases t with
    | zero => simp [setl, look]
    | succ t => simp [setl, look, look_setl l d t v]
theorem look_map (g : AV → AV) (hg : g .junk = .junk) : ∀ (l : List AV) (t : Nat), look (l.map g) t = g (look l t)
  | [], t => by simp [look, hg]
  | a :: l, 0 => rfl
  | a :: l, t + 1 => look_map g hg l t
theorem length_setl : ∀ (l : List AV) (d : Nat) (v : AV), (setl l d v).length = l.length
  | [], _, _ => rfl
  | _ :: _, 0, _ => rfl
  | _ :: l, d + 1, v => by simp [setl, length_setl l d v]
theorem look_ge : ∀ (l : List AV) (t : Nat), l.length ≤ t → look l t = .junk
  | [], _, _ => rfl
  | _ :: l, 0, h => by simp at h
  | _ :: l, t + 1, h => look_ge l t (by simpa using h)

theorem tm_put (a : Act) (d t : Nat) (v : Value) : tmOf (a.put (some d) v) t = if t = d ∧ d < a.tmps.size then v else tmOf a t := by
  simp only [tmOf, Act.put, Array.getD_eq_getD_getElem?, Array.getElem?_setIfInBounds]
  by_cases h : d = t
  · subst h
    by_cases h2 : d < a.tmps.size <;> simp [h2]
  · have : ¬ t = d := fun e => h e.symm
    simp [h, this]

theorem RepS.kill {H : View} {ι : Own} {sto : Sto} {tm tm' : Nat → Value} {d : Nat} (ht : ∀ j, j ≠ d → tm' j = tm j) {x : AV} {v : Value} (k : RepS C H ι sto tm x v) : RepS C H ι sto tm' (killcv d x) v := by
  cases x with
  | cv j w x =>
    simp only [killcv]
    by_cases h : j = d
    · subst h; simp [RepS, RepA]
    · have : Nat.beq j d = false := by simpa [nbeq] using h
      simp only [this, cond_false]
      simpa [RepS, ht j h] using k
  | _ => exact k
theorem RepS.dropcv {H : View} {ι : Own} {sto : Sto} {tm : Nat → Value} {x : AV} {v : Value} (k : RepS C H ι sto tm x v) : RepA C H ι sto (dropcv x) v := by
  cases x with
  | cv j w x => trivial
  | _ => exact k

/-- a slot is written -/
theorem Sim.put {f : Fr} {ι : Own} {st : St} {a : Act} {w : World} (s : Sim C f ι st a w) (d : Option Nat) {x : AV} {v : Value}
    (hx : ∀ d', d = some d' → d' < a.tmps.size → RepS C (view f ι st.sto w) ι st.sto (tmOf (a.put d v)) x v) : Sim C f ι (st.put d x) (a.put d v) w := by
  cases d with
  | none => exact s
  | some d =>
    refine ⟨?_, ?_, s.blk, s.inj, s.rng, s.keep, s.oth, s.defers⟩
    · intro t
      simp only [St.put, look_setl, tm_put, List.length_map]
      by_cases h : t = d
      · subst h
        rw [s.size]
        by_cases h2 : t < a.tmps.size
        · simpa [h2] using hx t rfl h2
        · simp [h2, RepS, RepA]
      · simp only [h, false_and, if_false]
        rw [look_map _ rfl]
        exact (s.env t).kill (fun j hj => by rw [tm_put]; simp [hj])
    · simp [St.put, length_setl, Act.put, s.size]

theorem Sim.drop {f : Fr} {ι : Own} {st : St} {a : Act} {w : World} (s : Sim C f ι st a w) : Sim C f ι st.drop a w :=
  ⟨fun t => by simp only [St.drop]; rw [look_map _ rfl]; exact .of (s.env t).dropcv, by simp [St.drop, s.size], s.blk, s.inj, s.rng, s.keep, s.oth, s.defers⟩

def setO (ι : Own) (d : Nat) (v : Value) : Own := fun i => if i = d then v else ι i

/-- A step that changes some blocks of the store: what is to be shown of the others. -/
theorem Sim.step {f : Fr} (hf : FrOk f) {ι ι' : Own} {st : St} {sto' : Sto} {a : Act} {w w' : World} (s : Sim C f ι st a w)
    (hle : StoLe ι st.sto ι' sto')
    (hA : ∀ id b, live sto' id → blkOf (ι' id) = some b → b < w.heap.size → ∃ id', live st.sto id' ∧ blkOf (ι id') = some b)
    (hB : ∀ b, b < w.heap.size → (∀ id, live st.sto id → blkOf (ι id) ≠ some b) → w'.heap[b]? = w.heap[b]?)
    (hk : Keep (fun _ => True) w w')
    (hC : ∀ id, live sto' id → (sto' id = st.sto id ∧ ι' id = ι id ∧ ∀ b, blkOf (ι id) = some b → w'.heap[b]? = w.heap[b]?) ∨
      ((view f ι st.sto w).le (view f ι' sto' w') → BlkOk C (view f ι' sto' w') ι' sto' w' id))
    (hI : ∀ id id' b, live sto' id → live sto' id' → blkOf (ι' id) = some b → blkOf (ι' id') = some b → id = id')
    (hR : ∀ id b, live sto' id → blkOf (ι' id) = some b → f.w0.heap.size ≤ b ∨ f.O b) :
    Sim C f ι' { st with sto := sto' } a w' ∧ (view f ι st.sto w).le (view f ι' sto' w') := by
  have hv : (view f ι st.sto w).le (view f ι' sto' w') := view_le s.keep.size hA hB hf
  have hN : ∀ (k : Nat) (o : Obj), w.heap[k]? = some o → ownable o = false → w'.heap[k]? = some o := by
    intro k o h1 h2
    rw [hB k (Array.getElem?_eq_some_iff.1 h1).1 ?_]
    · exact h1
    · intro id hl hb
      obtain ⟨o', h3, h4⟩ := (s.blk id).cells hl hb
      rw [h1] at h3
      cases h3
      rw [h2] at h4
      cases h4
  refine ⟨⟨fun t => (s.env t).mono hv hle, s.size, ?_, hI, hR, ?_, fun k o h => hN k o (s.oth k o h) (hf.kpc k o h), Marks.mono hN s.defers⟩, hv⟩
  · intro id
    show BlkOk C (view f ι' sto' w') ι' sto' w' id
    by_cases hl : live sto' id
    · rcases hC id hl with ⟨h1, h2, h3⟩ | h
      · have hb := s.blk id
        unfold BlkOk at hb ⊢
        show match sto' id with | _ => _
        cases hs : st.sto id with
        | none => rw [h1, hs]; trivial
        | some x =>
          rw [hs] at hb
          rw [h1, hs]
          cases x with
          | dead => trivial
          | arr e z xs =>
            obtain ⟨cs, k1, k2, k3, k4⟩ := hb
            refine ⟨cs, ?_, fun i hi => (k2 i hi).mono hv, by rw [h2]; exact k3, k4⟩
            rw [h2]
            refine ⟨k1.1, ?_⟩
            rcases k1.2 with k | ⟨g, cap, cur, e1, e2, e3, r⟩
            · exact .inl k
            · exact .inr ⟨g, cap, cur, e1, e2, by rw [h3 g (by simp [e1, blkOf])]; exact e3, r⟩
          | box t vs =>
            obtain ⟨g, cur, k1, k2, k3, k4⟩ := hb
            exact ⟨g, cur, by rw [h2]; exact k1, by rw [h3 g (by simp [k1, blkOf])]; exact k2, k3, k4.mono hv hle⟩
          | mp t us =>
            obtain ⟨g, es, clock, kt, vt, bt, k1, k2, k3, k4⟩ := hb
            exact ⟨g, es, clock, kt, vt, bt, by rw [h2]; exact k1, by rw [h3 g (by simp [k1, blkOf])]; exact k2, k3, k4.mono hv⟩
      · exact h hv
    · unfold live at hl
      unfold BlkOk
      show match sto' id with | _ => _
      cases hs : sto' id with
      | none => trivial
      | some x => cases x <;> simp_all
  · refine ⟨hk.os.trans s.keep.os, hk.tape.trans s.keep.tape, hk.output.trans s.keep.output, Nat.le_trans s.keep.size hk.size, Nat.le_trans s.keep.drawn hk.drawn, ?_⟩
    intro k hlt hO
    rw [hB k (Nat.lt_of_lt_of_le hlt s.keep.size) (fun id hl hb => by
      rcases s.rng id k hl hb with h | h
      · omega
      · exact hO h)]
    exact s.keep.block k hlt hO

end Go.Ab
