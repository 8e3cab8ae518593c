/- Operations that leave the store alone: all of them. -/
import Derived.Test.YtnahhhaicalmcaaDoorAbOps
set_option linter.unusedVariables false
set_option linter.unusedSimpArgs false
namespace Go.Ab
open Go.RowKit
variable {C : Ctx} {P : Program}

theorem exec_v {s : Sem Value} {q : Value} {w w' : World} (h : s.run P w = .ok q w') : (do pure (Next.value (← s)) : Sem Next).run P w = .ok (.value q) w' := by
  simp [h]
theorem unc_sound {H : View} {ι : Own} {sto : Sto} {tm : Nat → Value} {j : Nat} {w : Bool} {x : AV} {v : Value} (ht : tm j = .bool w) (h : RepS C H ι sto tm x v) : RepS C H ι sto tm (unc j w x) v := by
  cases hc : isCv x with
  | false => cases x <;> first | exact h | simp [isCv] at hc
  | true =>
    cases x with
    | cv j' w' y =>
      simp only [unc, nbeq]
      by_cases e : j = j' ∧ w = w'
      · obtain ⟨rfl, rfl⟩ := e
        simp
        exact .of (h.1 ht)
      · have : (decide (j = j') && w == w') = false := by
          cases hd : (decide (j = j') && w == w') with
          | false => rfl
          | true => simp at hd; exact absurd hd e
        rw [this]
        exact h
    | _ => simp [isCv] at hc

theorem slen_sound {H : View} {ι : Own} {st : St} {w : World} (hb : ∀ id, BlkOk C H ι st.sto w id) {x : AV} {v : Value} {n : Nat} (h : slen st x = some n) (r : RepA C H ι st.sto x v) :
    (∃ s, v = .string s ∧ s.size = n) ∨ ∃ a c, v = .slice a n c := by
  unfold slen at h
  split at h
  · cases h; exact .inl ⟨_, r, size_str _⟩
  · cases h; exact .inr ⟨none, 0, r⟩
  · cases h
    rcases r with ⟨h1, h2, rfl⟩ | ⟨a, cap, cs, rfl, _⟩
    · exact .inr ⟨none, 0, by rw [h1]⟩
    · exact .inr ⟨_, _, rfl⟩
  · rename_i id
    split at h
    · rename_i e z xs hs
      cases h
      obtain ⟨cs, k1, k2, k3, k4⟩ := (hb id).arr hs
      have r' : RepOw C ι st.sto id none v := r
      unfold RepOw at r'
      rw [hs] at r'
      simp only at r'
      subst r'
      rcases own_slice k1 with ⟨h1, h2⟩ | ⟨g, cap, h1⟩
      · exact .inr ⟨none, 0, by rw [h1, h2]⟩
      · exact .inr ⟨_, _, h1⟩
    · cases h
  · rename_i id o n'
    split at h
    · rename_i e z xs hs
      cases h
      have r' : RepOw C ι st.sto id (some (o, n)) v := r
      unfold RepOw at r'
      rw [hs] at r'
      obtain ⟨_, h⟩ := r'
      rcases h with ⟨_, rfl, rfl⟩ | ⟨g, cap, a, _, rfl, _⟩
      · exact .inr ⟨none, 0, rfl⟩
      · exact .inr ⟨_, _, rfl⟩
    · cases h
  · cases h

theorem toL_get (u : U) : ∀ i, i < u.len → u.toL[i]? = some (u.get i) := by
  intro i hi
  simp [U.toL, hi]
theorem toL_len (u : U) : u.toL.length = u.len := by simp [U.toL]
theorem strOfNums_eq (l : List U) : strOfNums (l.map U.toI) = str (U.bytes l) := by
  simp [strOfNums, str, U.bytes]
/-- bytes become a string -/
theorem run_bytes (ok : CtxOk P C) {H : View} {t1 t2 e : Nat} (h1 : C.te t1 = some (.sl e)) (he : C.te e = some (.int .u8)) (h2 : C.te t2 = some .str) {w : World} (hH : H.le (World.view w)) {u : U} {v : Value} (r : RepSl C H e u v) :
    (convert t1 t2 v).run P w = .ok (.string (str (U.bytes u.toL))) w := by
  have hu1 := ok.und t1 _ h1
  have hu2 := ok.und t2 _ h2
  have hue := ok.und e _ he
  simp only at hu1 hu2 hue
  rcases r with ⟨k1, k2, rfl⟩ | ⟨a, cap, cs, rfl, k2, k3, k4, k5⟩
  · rw [run_convert_bytes_nil w t1 e hu1 hue 0 0 t2 hu2]
    simp [U.toL, k1, U.bytes, str]
    rfl
  · by_cases h0 : u.len = 0
    · rw [h0, run_convert_bytes_string w t1 t2 e _ _ _ hu1 hue hu2, run_bytesToString w a 0 cap [] (by simp [loadCells, loadCellsFrom])]
      simp [U.toL, h0, U.bytes, str]
      rfl
    · have hsp := RepSl.spot ok (cap := cap) k4 k5 (by omega)
      have hsz : C.sz e = 1 := ok.one e _ he (by simp)
      obtain ⟨b, o, s⟩ := a
      simp at hsp; subst hsp
      rw [run_convert_bytes_arg w t1 e hu1 hue b o u.len cap (u.toL.map U.toI) (by simp [toL_len]) ?_ t2 hu2, strOfNums_eq]
      intro i hi
      have hc := k4 i hi
      have hr := k5 i hi
      have hcs : cs i = [.int .u8 (u.get i).toI] := by
        revert hr
        generalize cs i = l
        intro hr
        cases hr with
        | int h => rw [he] at h; cases h; rfl
        | _ => simp_all
      have := hH _ _ _ (hc.2 0 (.int .u8 (u.get i).toI) (by rw [hcs]; rfl))
      rw [add_eq, hsz] at this
      simp at this
      rw [show World.view w b (o + i) = w.cell? ⟨b, o + i, none⟩ from rfl] at this
      rw [this]
      simp [List.getD, toL_get u i hi]

theorem capOf_sound {H : View} {ι : Own} {st : St} {x : AV} {v : Value} {c : Cap} (h : capOf x = some c) {tm : Nat → Value} (r : RepS C H ι st.sto tm x v) : RepCap C H ι st.sto c v := by
  unfold capOf at h
  split at h
  · cases h; exact r
  · cases h; exact r
  · cases h
theorem capsOf_sound {H : View} {ι : Own} {st : St} {tm : Nat → Value} : ∀ {xs : List AV} {vs : List Value} {cs : List Cap}, capsOf xs = some cs → (xs.length = vs.length ∧ ∀ (i : Nat) (x : AV) (v : Value), xs[i]? = some x → vs[i]? = some v → RepS C H ι st.sto tm x v) → RepCaps C H ι st.sto cs vs
  | [], vs, cs, h, ⟨hl, _⟩ => by
    simp [capsOf] at h; subst h
    obtain rfl : vs = [] := List.eq_nil_of_length_eq_zero (by simpa using hl.symm)
    trivial
  | x :: xs, [], cs, h, ⟨hl, _⟩ => by simp at hl
  | x :: xs, v :: vs, cs, h, ⟨hl, hr⟩ => by
    simp only [capsOf] at h
    cases hx : capOf x with
    | none => simp [hx] at h
    | some c =>
      cases hxs : capsOf xs with
      | none => simp [hx, hxs] at h
      | some cs' =>
        simp [hx, hxs] at h; subst h
        exact ⟨capOf_sound hx (hr 0 x v rfl rfl), capsOf_sound hxs ⟨by simpa using hl, fun i x v h1 h2 => hr (i + 1) x v (by simpa using h1) (by simpa using h2)⟩⟩

theorem RepTup.get {H : View} {ι : Own} {sto : Sto} {u : U} : ∀ {ts : List (Nat × Option Nat)} {vs : List Value} {j : Nat}, RepTup C H ι sto u ts vs j → ∀ {i : Nat} {p : Nat × Option Nat}, ts[i]? = some p →
    ∃ v, vs[i]? = some v ∧ (match p with | (t, none) => ∃ cs, IsVal C t v cs ∧ Rep C H t cs (u.get (j + i)) | (_, some id) => RepOw C ι sto id none v)
  | (t, none) :: ts, v :: vs, j, k, 0, p, h => by simp at h; subst h; exact ⟨v, rfl, k.1⟩
  | (t, some id) :: ts, v :: vs, j, k, 0, p, h => by simp at h; subst h; exact ⟨v, rfl, k.1⟩
  | (t, none) :: ts, v :: vs, j, k, i + 1, p, h => by
    obtain ⟨v', h1, h2⟩ := RepTup.get k.2 (i := i) (p := p) (by simpa using h)
    exact ⟨v', by simpa using h1, by simpa [Nat.add_assoc, Nat.add_comm 1 i] using h2⟩
  | (t, some id) :: ts, v :: vs, j, k, i + 1, p, h => by
    obtain ⟨v', h1, h2⟩ := RepTup.get k.2 (i := i) (p := p) (by simpa using h)
    exact ⟨v', by simpa using h1, by simpa [Nat.add_assoc, Nat.add_comm 1 i] using h2⟩
  | [], vs, j, k, i, p, h => by simp at h
  | p' :: ts, [], j, k, i, p, h => by obtain ⟨t, o⟩ := p'; cases o <;> exact False.elim k


theorem capTs_len {st : St} : ∀ {cs : List Cap} {ts : List Nat}, capTs st cs = some ts → True := fun _ => trivial

theorem map_rep {H : View} {ι : Own} {sto : Sto} {tm : Nat → Value} {a : Act} {ev : Operand → AV} (hev : ∀ x, RepS C H ι sto tm (ev x) (a.eval x)) (l : List Operand) :
    (l.map ev).length = (l.map a.eval).length ∧ ∀ (i : Nat) (x : AV) (v : Value), (l.map ev)[i]? = some x → (l.map a.eval)[i]? = some v → RepS C H ι sto tm x v := by
  refine ⟨by simp, fun i x v h1 h2 => ?_⟩
  simp only [List.getElem?_map, Option.map_eq_some_iff] at h1 h2
  obtain ⟨o, h3, rfl⟩ := h1
  obtain ⟨o', h4, rfl⟩ := h2
  rw [h3] at h4; cases h4
  exact hev o

end Go.Ab
