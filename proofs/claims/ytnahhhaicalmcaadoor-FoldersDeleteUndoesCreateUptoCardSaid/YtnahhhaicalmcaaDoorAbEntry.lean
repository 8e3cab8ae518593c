/- A call begins. -/
import Derived.Test.YtnahhhaicalmcaaDoorAbSpec
set_option linter.unusedVariables false
set_option linter.unusedSimpArgs false
namespace Go.Ab
open Go.RowKit
variable {C : Ctx} {P : Program}

theorem elt_of {t e : Nat} (h : C.te t = some (.sl e)) : elt C t = some e := by simp [elt, h]

theorem stoP_own {t : Nat} {ts : List Nat} {os : List (Option Bool)} {u : U} {us : List U} {j : Nat} {z : Bool} {e : Nat} (h1 : hd0 os = some z) (h2 : elt C t = some e) (id : Nat) :
    stoP C (t :: ts) os (u :: us) j id = if id = j then some (.arr e u.isNil u.toL) else stoP C ts os.tail us (j + 1) id := by
  rw [stoP]
  simp only [h1, h2, nbeq]
  by_cases h : id = j <;> simp [h]
theorem stoP_not {t : Nat} {ts : List Nat} {os : List (Option Bool)} {u : U} {us : List U} {j : Nat} (h1 : hd0 os = none) (id : Nat) :
    stoP C (t :: ts) os (u :: us) j id = stoP C ts os.tail us (j + 1) id := by
  rw [stoP]
  simp only [h1]

theorem stoP_cases {f : Fr} : ∀ {ts : List Nat} {os : List (Option Bool)} {us : List U} {vs : List Value} {j id : Nat} {b : Blk}, ArgsL C f os ts us vs → stoP C ts os us j id = some b →
    ∃ i e z xs, i < vs.length ∧ id = j + i ∧ b = .arr e z xs ∧ OwnIn C f.H f.w0 e z xs (vs.getD i undef) ∧ vs.getD i undef ∈ ownVs os vs ∧ ∀ g, blkOf (vs.getD i undef) = some g → f.O g
  | [], os, [], [], j, id, b, _, h => by simp [stoP] at h
  | t :: ts, os, u :: us, v :: vs, j, id, b, k, h => by
    obtain ⟨k1, k2⟩ := k
    have tail : stoP C ts os.tail us (j + 1) id = some b → ∃ i e z xs, i < (v :: vs).length ∧ id = j + i ∧ b = .arr e z xs ∧ OwnIn C f.H f.w0 e z xs ((v :: vs).getD i undef) ∧ (v :: vs).getD i undef ∈ ownVs os (v :: vs) ∧ ∀ g, blkOf ((v :: vs).getD i undef) = some g → f.O g := by
      intro h'
      obtain ⟨i, e, z, xs, a1, a2, a3, a4, a5, a6⟩ := stoP_cases k2 h'
      exact ⟨i + 1, e, z, xs, by simpa using a1, by omega, a3, by simpa using a4, by simp only [ownVs]; exact List.mem_append_right _ (by simpa using a5), by simpa using a6⟩
    cases ho : hd0 os with
    | none => rw [stoP_not ho] at h; exact tail h
    | some z =>
      rw [ho] at k1
      obtain ⟨e, e1, e2, _, e3⟩ := k1
      rw [stoP_own ho (elt_of e1)] at h
      by_cases hid : id = j
      · rw [if_pos hid] at h
        cases h
        exact ⟨0, e, _, _, by simp, by omega, rfl, by simpa using e2, by simp [ownVs, ho], by simpa using fun g hg => (e3 g hg).1⟩
      · rw [if_neg hid] at h; exact tail h
  | [], os, _ :: _, _, j, id, b, k, h => k.elim
  | [], os, [], _ :: _, j, id, b, k, h => k.elim
  | _ :: _, os, [], _, j, id, b, k, h => k.elim
  | _ :: _, os, _ :: _, [], j, id, b, k, h => k.elim

theorem stoP_inj {f : Fr} : ∀ {ts : List Nat} {os : List (Option Bool)} {us : List U} {vs : List Value} {j i i' g : Nat} {b b' : Blk}, ArgsL C f os ts us vs → stoP C ts os us j (j + i) = some b → stoP C ts os us j (j + i') = some b' → i < i' →
    blkOf (vs.getD i undef) = some g → blkOf (vs.getD i' undef) = some g → False
  | [], os, [], [], j, i, i', g, b, b', _, h, _, _, _, _ => by simp [stoP] at h
  | t :: ts, os, u :: us, v :: vs, j, i, i', g, b, b', k, h, h', hi, hg, hg' => by
    obtain ⟨k1, k2⟩ := k
    obtain ⟨i', rfl⟩ : ∃ n, i' = n + 1 := ⟨i' - 1, by omega⟩
    have h2 : stoP C ts os.tail us (j + 1) (j + 1 + i') = some b' := by
      cases ho : hd0 os with
      | none => rw [stoP_not ho] at h'; rw [← h']; congr 1; omega
      | some z =>
        rw [ho] at k1
        obtain ⟨e, e1, e2, _, e3⟩ := k1
        rw [stoP_own ho (elt_of e1), if_neg (by omega)] at h'
        rw [← h']; congr 1; omega
    cases i with
    | zero =>
      cases ho : hd0 os with
      | none =>
        rw [stoP_not ho] at h
        obtain ⟨i2, e, z, xs, a1, a2, _⟩ := stoP_cases k2 h
        omega
      | some z =>
        rw [ho] at k1
        obtain ⟨e, e1, e2, _, e3⟩ := k1
        obtain ⟨i2, e', z', xs, a1, a2, a3, a4, a5, a6⟩ := stoP_cases k2 h2
        have : i2 = i' := by omega
        subst this
        have := e3 g (by simpa using hg)
        exact this.2 _ a5 (by simpa using hg')
    | succ i =>
      have h1 : stoP C ts os.tail us (j + 1) (j + 1 + i) = some b := by
        cases ho : hd0 os with
        | none => rw [stoP_not ho] at h; rw [← h]; congr 1; omega
        | some z =>
          rw [ho] at k1
          obtain ⟨e, e1, e2, _, e3⟩ := k1
          rw [stoP_own ho (elt_of e1), if_neg (by omega)] at h
          rw [← h]; congr 1; omega
      exact stoP_inj k2 h1 h2 (by omega) (by simpa using hg) (by simpa using hg')
  | [], os, _ :: _, _, j, i, i', g, b, b', k, _, _, _, _, _ => k.elim
  | [], os, [], _ :: _, j, i, i', g, b, b', k, _, _, _, _, _ => k.elim
  | _ :: _, os, [], _, j, i, i', g, b, b', k, _, _, _, _, _ => k.elim
  | _ :: _, os, _ :: _, [], j, i, i', g, b, b', k, _, _, _, _, _ => k.elim

theorem envP_rep {f : Fr} {V : View} (hV : f.H.le V) {ι : Own} {S : Sto} : ∀ {ts : List Nat} {os : List (Option Bool)} {us : List U} {vs : List Value} {j : Nat}, ArgsL C f os ts us vs → (∀ id b, stoP C ts os us j id = some b → S id = some b) →
    (∀ i, i < vs.length → ι (j + i) = vs.getD i undef) → (envP C ts os us j).length = vs.length ∧ us.length = vs.length ∧ ts.length = vs.length ∧ ∀ i, i < vs.length → RepA C V ι S (look (envP C ts os us j) i) (vs.getD i undef)
  | [], os, [], [], j, _, _, _ => by simp [envP]
  | t :: ts, os, u :: us, v :: vs, j, k, hs, hι => by
    obtain ⟨k1, k2⟩ := k
    have hs2 : ∀ id b, stoP C ts os.tail us (j + 1) id = some b → S id = some b := by
      intro id b hb
      obtain ⟨i, _, _, _, _, hid, _⟩ := stoP_cases k2 hb
      apply hs
      cases ho : hd0 os with
      | none => rw [stoP_not ho]; exact hb
      | some z =>
        rw [ho] at k1
        obtain ⟨e, e1, _⟩ := k1
        rw [stoP_own ho (elt_of e1), if_neg (by omega)]; exact hb
    obtain ⟨a1, a2, a3, a4⟩ := envP_rep hV k2 hs2 (fun i hi => by
      have := hι (i + 1) (by simpa using hi)
      simpa [Nat.add_assoc, Nat.add_comm 1 i] using this)
    refine ⟨by simp [envP, a1], by simp [a2], by simp [a3], fun i hi => ?_⟩
    cases i with
    | succ i => simpa [envP, look] using a4 i (by simpa using hi)
    | zero =>
      simp only [envP, look, List.getD_cons_zero]
      cases ho : hd0 os with
      | none =>
        rw [ho] at k1
        obtain ⟨cs, h1, h2⟩ := k1
        exact (h2.mono hV).ofU h1
      | some z =>
        rw [ho] at k1
        obtain ⟨e, e1, e2, _, e3⟩ := k1
        have := hs j (.arr e u.isNil u.toL) (by rw [stoP_own ho (elt_of e1), if_pos rfl])
        show RepOw C ι S j none v
        unfold RepOw
        rw [this]
        have := hι 0 (by simp)
        simpa using this.symm
  | [], os, _ :: _, _, j, k, _, _ => k.elim
  | [], os, [], _ :: _, j, k, _, _ => k.elim
  | _ :: _, os, [], _, j, k, _, _ => k.elim
  | _ :: _, os, _ :: _, [], j, k, _, _ => k.elim

theorem envC_rep {H V : View} (hV : H.le V) {ι : Own} {S : Sto} : ∀ {ts : List Nat} {us : List U} {vs : List Value}, CapsL C H ts us vs →
    (envC ts us).length = vs.length ∧ us.length = vs.length ∧ ts.length = vs.length ∧ ∀ i, i < vs.length → RepA C V ι S (look (envC ts us) i) (vs.getD i undef)
  | [], [], [], _ => by simp [envC]
  | t :: ts, u :: us, v :: vs, k => by
    obtain ⟨a1, a2, a3, a4⟩ := envC_rep hV (ι := ι) (S := S) k.2
    refine ⟨by simp [envC, a1], by simp [a2], by simp [a3], fun i hi => ?_⟩
    cases i with
    | succ i => simpa [envC, look] using a4 i (by simpa using hi)
    | zero => show RepPtr C V t u v; exact RepPtr.mono hV k.1
  | [], _ :: _, _, k => k.elim
  | [], [], _ :: _, k => k.elim
  | _ :: _, [], _, k => k.elim
  | _ :: _, _ :: _, [], k => k.elim

theorem look_append : ∀ (l l' : List AV) (i : Nat), look (l ++ l') i = if i < l.length then look l i else look l' (i - l.length)
  | [], l', i => by simp
  | a :: l, l', 0 => by simp [look]
  | a :: l, l', i + 1 => by simp [look, look_append l l' i]
theorem look_replicate (n i : Nat) : look (List.replicate n .und) i = if i < n then .und else .junk := by
  induction n generalizing i with
  | zero => simp [look]
  | succ n ih => cases i <;> simp [List.replicate_succ, look, ih]

/-- the state at the start of a call -/
theorem Sim.start {f : Fr} (hf : FrOk f) {fi : Fn} {us : List U} {vs : List Value} (hkp : ∀ k o, ¬ f.kp k o) (h : ArgsOk C f fi us vs) :
    Sim C f (fun i => vs.getD i undef) (st0 C fi us) { tmps := vs.toArray ++ Array.replicate (fi.ntmps - vs.length) undef, defers := [] } f.w0 ∧ us.length = fi.params.length + fi.caps.length := by
  obtain ⟨us1, us2, vs1, vs2, rfl, rfl, h1, h2⟩ := h
  have hlen : us1.length = fi.params.length := by
    obtain ⟨_, a2, a3, _⟩ := envP_rep (V := f.H) (View.le.refl _) (ι := fun i => vs1.getD i undef) (S := stoP C fi.params fi.own us1 0) (j := 0) h1 (fun _ _ h => h) (fun i _ => by simp)
    omega
  have htake : (us1 ++ us2).take fi.params.length = us1 := by rw [← hlen]; simp
  have hdrop : (us1 ++ us2).drop fi.params.length = us2 := by rw [← hlen]; simp
  have hget : ∀ i, i < vs1.length → (vs1 ++ vs2).getD i undef = vs1.getD i undef := by
    intro i hi
    simp [List.getD, List.getElem?_append_left hi]
  have hget2 : ∀ i, vs1.length ≤ i → (vs1 ++ vs2).getD i undef = vs2.getD (i - vs1.length) undef := by
    intro i hi
    simp [List.getD, List.getElem?_append_right hi]
  have hsto : (st0 C fi (us1 ++ us2)).sto = stoP C fi.params fi.own us1 0 := by simp [st0, htake]
  have hcase : ∀ id b, (st0 C fi (us1 ++ us2)).sto id = some b → ∃ e z xs, b = .arr e z xs ∧ OwnIn C f.H f.w0 e z xs ((vs1 ++ vs2).getD id undef) ∧ ∀ g, blkOf ((vs1 ++ vs2).getD id undef) = some g → f.O g := by
    intro id b hb
    rw [hsto] at hb
    obtain ⟨i, e, z, xs, a1, a2, a3, a4, a5, a6⟩ := stoP_cases h1 hb
    have hid : id = i := by omega
    rw [hid, hget i a1]
    exact ⟨e, z, xs, a3, a4, a6⟩
  have hV : f.H.le (view f (fun i => (vs1 ++ vs2).getD i undef) (st0 C fi (us1 ++ us2)).sto f.w0) := by
    intro b o v e
    have hO : ¬ f.O b := fun hO => by rw [hf.own b o hO] at e; cases e
    have hb : b < f.w0.heap.size := World.block_lt_of_cell? f.w0 _ (hf.le b o v e)
    unfold view
    rw [if_neg, if_pos ⟨hb, hO⟩]
    · exact e
    · rintro ⟨id, a1, a2⟩
      unfold live at a1
      cases hs : (st0 C fi (us1 ++ us2)).sto id with
      | none => simp [hs] at a1
      | some x =>
        obtain ⟨_, _, _, _, _, a3⟩ := hcase id x hs
        exact hO (a3 b a2)
  obtain ⟨p1, p2, p3, p4⟩ := envP_rep hV (ι := fun i => (vs1 ++ vs2).getD i undef) (S := (st0 C fi (us1 ++ us2)).sto) (j := 0) h1 (fun id b hb => by rw [hsto]; exact hb) (fun i hi => by rw [Nat.zero_add]; exact hget i hi)
  obtain ⟨q1, q2, q3, q4⟩ := envC_rep hV (ι := fun i => (vs1 ++ vs2).getD i undef) (S := (st0 C fi (us1 ++ us2)).sto) h2
  have hnn : fi.params.length + fi.caps.length = (vs1 ++ vs2).length := by simp [p3, q3]
  refine ⟨⟨?_, ?_, ?_, ?_, ?_, ?_, fun k o h => (hkp k o h).elim, trivial⟩, by simp [p2, q2, p3, q3]⟩
  · intro t
    have henv : (st0 C fi (us1 ++ us2)).env = envP C fi.params fi.own us1 0 ++ (envC fi.caps us2 ++ List.replicate (fi.ntmps - (vs1 ++ vs2).length) .und) := by
      simp only [st0, htake, hdrop, hnn]
    rw [henv, look_append, look_append, look_replicate, p1, q1]
    have htm : tmOf { tmps := (vs1 ++ vs2).toArray ++ Array.replicate (fi.ntmps - (vs1 ++ vs2).length) undef, defers := [] } t = (vs1 ++ vs2).getD t undef := by
      simp only [tmOf, Array.getD_eq_getD_getElem?, Array.getElem?_append, List.getD_eq_getElem?_getD]
      by_cases ht : t < (vs1 ++ vs2).length
      · rw [if_pos (by simpa using ht)]
        simp
      · rw [if_neg (by simpa using ht), List.getElem?_eq_none (by omega)]
        simp only [Array.getElem?_replicate]
        split <;> rfl
    rw [htm]
    apply RepS.of
    by_cases c1 : t < vs1.length
    · rw [if_pos c1, hget t c1]; exact p4 t c1
    · rw [if_neg c1, hget2 t (by omega)]
      by_cases c2 : t - vs1.length < vs2.length
      · rw [if_pos c2]; exact q4 _ c2
      · rw [if_neg c2]
        split
        · show vs2.getD (t - vs1.length) undef = undef
          simp [List.getD, List.getElem?_eq_none (Nat.not_lt.1 c2)]
        · trivial
  · simp only [st0, htake, hdrop]
    simp [p1, q1, hnn]
    simp at hnn
    omega
  · intro id
    unfold BlkOk
    cases hs : (st0 C fi (us1 ++ us2)).sto id with
    | none => trivial
    | some x =>
      obtain ⟨e, z, xs, rfl, ⟨cs, b1, b2, b3, b4⟩, _⟩ := hcase id x hs
      exact ⟨cs, b1, fun i hi => (b2 i hi).mono hV, b3, b4⟩
  · intro id id' g l1 l2 e1 e2
    unfold live at l1 l2
    rw [hsto] at l1 l2
    cases hs : stoP C fi.params fi.own us1 0 id with
    | none => simp [hs] at l1
    | some x =>
      cases hs' : stoP C fi.params fi.own us1 0 id' with
      | none => simp [hs'] at l2
      | some x' =>
        obtain ⟨i, _, _, _, a1, a2, _⟩ := stoP_cases h1 hs
        obtain ⟨i', _, _, _, a1', a2', _⟩ := stoP_cases h1 hs'
        have hid : id = i := by omega
        have hid' : id' = i' := by omega
        subst hid; subst hid'
        rw [hget _ a1] at e1
        rw [hget _ a1'] at e2
        rcases Nat.lt_trichotomy id id' with h | h | h
        · exact (stoP_inj h1 (by rw [Nat.zero_add]; exact hs) (by rw [Nat.zero_add]; exact hs') h e1 e2).elim
        · exact h
        · exact (stoP_inj h1 (by rw [Nat.zero_add]; exact hs') (by rw [Nat.zero_add]; exact hs) h e2 e1).elim
  · intro id g l e
    unfold live at l
    cases hs : (st0 C fi (us1 ++ us2)).sto id with
    | none => simp [hs] at l
    | some x =>
      obtain ⟨_, _, _, _, _, a3⟩ := hcase id x hs
      exact .inr (a3 g e)
  · exact ⟨rfl, rfl, rfl, Nat.le_refl _, Nat.le_refl _, fun _ _ _ => rfl⟩

end Go.Ab
