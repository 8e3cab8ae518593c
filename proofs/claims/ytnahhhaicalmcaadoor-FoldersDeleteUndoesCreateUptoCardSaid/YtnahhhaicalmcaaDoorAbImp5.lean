/- New rows, and all steps that touch the store in one law. -/
import Derived.Test.YtnahhhaicalmcaaDoorAbImp4b
import Derived.MapKept
import Derived.Great.BuildSlice
set_option linter.unusedVariables false
set_option linter.unusedSimpArgs false
namespace Go.Ab
open Go.RowKit
variable {C : Ctx} {P : Program}

theorem chunk_flatMap {cs : Nat → List Value} {n sz i : Nat} (h : ∀ j, j < n → (cs j).length = sz) (hi : i < n) : chunk ((List.range n).flatMap cs) sz i = cs i := by
  have hl : ((List.range i).flatMap cs).length = i * sz := by
    have : ∀ m, m ≤ n → ((List.range m).flatMap cs).length = m * sz := by
      intro m
      induction m with
      | zero => intro _; simp
      | succ m ih => intro hm; rw [List.range_succ, List.flatMap_append, List.length_append, ih (by omega)]; simp [h m (by omega), Nat.add_mul]
    exact this i (by omega)
  unfold chunk
  rw [flatMap_split cs n i hi, List.append_assoc, ← hl, List.drop_left]
  rw [← h i hi, List.take_left]
theorem len_flatMap {cs : Nat → List Value} {n sz : Nat} (h : ∀ j, j < n → (cs j).length = sz) : ((List.range n).flatMap cs).length = n * sz := by
  induction n with
  | zero => simp
  | succ n ih => rw [List.range_succ, List.flatMap_append, List.length_append, ih (fun j hj => h j (by omega))]; simp [h n (by omega), Nat.add_mul]
theorem made_flat (z : Array Value) (h0 : 0 < z.size) : ∀ n, (madeCells z (n * z.size)).toList = (List.range n).flatMap fun _ => z.toList := by
  intro n
  have hl : ((List.range n).flatMap fun _ => z.toList).length = n * z.size := len_flatMap (fun _ _ => by simp)
  apply List.ext_getElem
  · rw [hl]; simp [madeCells]
  · intro k h1 h2
    have hk : k < n * z.size := by rw [← hl]; exact h2
    have hi : k / z.size < n := Nat.div_lt_of_lt_mul (by rw [Nat.mul_comm]; exact hk)
    have hm : k % z.size < z.size := Nat.mod_lt _ h0
    have hch := chunk_flatMap (cs := fun _ => z.toList) (n := n) (sz := z.size) (i := k / z.size) (fun _ _ => by simp) hi
    have hg : (chunk ((List.range n).flatMap fun _ => z.toList) z.size (k / z.size))[k % z.size]? = z.toList[k % z.size]? := by rw [hch]
    rw [chunk_getq, if_pos hm] at hg
    have e : k / z.size * z.size + k % z.size = k := by rw [Nat.mul_comm]; exact Nat.div_add_mod k z.size
    rw [e, List.getElem?_eq_getElem h2] at hg
    have : z[k % z.size]! = z[k % z.size] := by simp [hm]
    simp [madeCells, this]
    rw [List.getElem?_eq_getElem (by simpa using hm)] at hg
    simpa using hg.symm

def zeroCellsL (z : Array Value) (n : Nat) : List Value := (List.range n).flatMap fun _ => z.toList
def noV0 : View := fun _ _ => none
theorem St.ext {a b : St} (h : a.env = b.env) (k : a.sto = b.sto) : a = b := by cases a; cases b; simp_all
section
variable {f : Fr} {ι : Own} {st : St} {a : Act} {w : World}

/-- a new row of the call's own -/
theorem new_row (hf : FrOk f) (s : Sim C f ι st a w) {d e : Nat} (hd : st.sto d = none) {n cap : Nat} {xs : List U} (hn : xs.length = n) (hcap : n ≤ cap) (hm : cap ≤ maxLen) {cells : Array Value} {cs : Nat → List Value}
    (hcs : cells.toList = (List.range cap).flatMap cs) (hl : ∀ j, j < cap → (cs j).length = C.sz e) (hr : ∀ j, j < n → Rep C (view f ι st.sto w) e (cs j) (U.nth xs j)) (hte : ∃ ty, C.te e = some ty) :
    ∃ ι', Sim C f ι' ((st.blk d (.arr e false xs)).put (some d) (.ow d none)) (a.put (some d) (.slice (some ⟨w.heap.size, 0, none⟩) n cap)) (w.alloc (.cells cells e)) := by
  have hk : Keep (fun _ => False) w (w.alloc (.cells cells e)) := ⟨rfl, rfl, rfl, by simp, Nat.le_refl _, fun k hk _ => heap_alloc_old w _ hk⟩
  have hset : setO ι d (.slice (some ⟨w.heap.size, 0, none⟩) n cap) d = .slice (some ⟨w.heap.size, 0, none⟩) n cap := by simp [setO]
  have hst : (st.blk d (.arr e false xs)).sto d = some (.arr e false xs) := by simp [St.blk, nbeq]
  have hsize : cells.size = cap * C.sz e := by rw [← Array.length_toList, hcs, len_flatMap hl]
  have htake : cells.toList.take (n * C.sz e) = (List.range n).flatMap cs := by
    rw [hcs]
    by_cases h : n = cap
    · subst h; rw [List.take_of_length_le (by rw [len_flatMap hl]; exact Nat.le_refl _)]
    · have hnc : n < cap := by omega
      rw [flatMap_split cs cap n hnc, List.append_assoc, ← len_flatMap (n := n) (fun j hj => hl j (by omega)), List.take_left]
  obtain ⟨s', hv⟩ := s.fresh hf hd (b := .arr e false xs) (v := .slice (some ⟨w.heap.size, 0, none⟩) n cap) hk (fun g hg => by simp [blkOf] at hg; omega) (fun hle => by
    unfold BlkOk
    rw [hst, hset]
    refine ⟨(List.range n).flatMap cs, ⟨by rw [len_flatMap (fun j hj => hl j (by omega)), hn], .inr ⟨w.heap.size, cap, cells, by rw [hn], trivial, heap_alloc_new w _, by rw [hn]; exact hcap, hm, Nat.le_of_eq hsize.symm, by rw [hn]; exact htake⟩⟩, fun i hi => ?_, by simp, hte⟩
    rw [hn] at hi
    rw [chunk_flatMap (fun j hj => hl j (by omega)) hi]
    exact (hr i hi).mono hle)
  refine ⟨_, s'.put (some d) (fun _ _ _ => .of ?_)⟩
  show RepOw C _ _ d none _
  unfold RepOw
  rw [hst]
  exact hset.symm

theorem nth_replicate (n i : Nat) (u : U) (h : i < n) : U.nth (List.replicate n u) i = u := by
  simp [nth_get, h]

theorem astore_cv {C : Ctx} {st : St} {t : Nat} {xa : AV} {j : Nat} {w' : Bool} {v : AV} : astore C st t xa (.cv j w' v) = none := by
  have hun : ∀ t, unbox C st t (.cv j w' v) = none := by
    intro t
    unfold unbox
    cases hte : C.te t with
    | none => rfl
    | some ty => cases ty <;> simp [fitsArg, hte, fitsT]
  have hset : ∀ t x p, setField C st t x (.cv j w' v) p = none := by
    intro t x p
    cases p with
    | nil => cases hte : C.te t with
      | none => simp [setField, fitsArg, hte, fitsT]
      | some ty => cases ty <;> simp [setField, fitsArg, hte, fitsT]
    | cons k p => cases x <;> simp [setField, AV.flat]
  unfold astore
  cases isPtr C t with
  | true => rfl
  | false =>
    simp only [cond_false]
    cases xa with
    | pb id p =>
      simp only
      cases st.sto id with
      | none => rfl
      | some b =>
        cases b with
        | box t' vs =>
          simp only [hun, hset, Option.map_none]
          cases C.te t' with
          | none => cases p <;> cases Nat.beq t t' <;> rfl
          | some ty =>
            cases ty <;> cases p <;> simp only [Bool.cond_self]
        | _ => rfl
    | pe id i p =>
      simp only [AV.flat]
      cases st.sto id with
      | none => rfl
      | some b => cases b <;> rfl
    | _ => rfl

theorem row_zero (ok : CtxOk P C) (zok : ZeroOk P C) {e : Nat} (hz : zeroT C 20 e = true) (n : Nat) {i : TypeInfo} {z : Value} (h1 : P.info? e = some i) (h2 : i.zero = some z) :
    i.size = C.sz e ∧ z.cells.size = C.sz e ∧ 0 < C.sz e ∧ (∀ H, Rep C H e z.cells.toList (zeroU C 20 e)) ∧ (∃ ty, C.te e = some ty) ∧ (madeCells z.cells (n * i.size)).toList = (List.range n).flatMap fun _ => z.cells.toList := by
  obtain ⟨i', z', a1, a2, a3, a4, a5, a6, a7⟩ := zero_size ok zok hz
  rw [h1] at a1; cases a1
  rw [h2] at a2; cases a2
  refine ⟨a3, a4, a5, a6, a7, ?_⟩
  rw [a3, ← a4]
  exact made_flat z.cells (by omega) n

theorem make_sound (ok : CtxOk P C) (zok : ZeroOk P C) (lok : LimOk P C) {f : Fr} (hf : FrOk f) {ι : Own} {st : St} {a : Act} {w : World} (s : Sim C f ι st a w) {t e d : Nat} (hsd : st.sto d = none) (ht : C.te t = some (.sl e)) (hz : zeroT C 20 e = true)
    (kl kc : IntKind) {l c : Int} (h0 : 0 ≤ l) (h1 : l ≤ c) (h2 : c ≤ C.lim e) :
    ∃ v w', (Instr.makeSlice t (.int kl l) (.int kc c)).run P w = .ok v w' ∧ ∃ ι', Sim C f ι' ((st.blk d (.arr e false (List.replicate l.toNat (zeroU C 20 e)))).put (some d) (.ow d none)) (a.put (some d) v) w' := by
  obtain ⟨i, z, a1, a2, _⟩ := zero_size ok zok hz
  obtain ⟨b1, b2, b3, b4, b5, b6⟩ := row_zero ok zok hz c.toNat a1 a2
  obtain ⟨l1, l2⟩ := lok e i a1
  have hu := ok.und t _ ht
  simp only at hu
  have hm : C.lim e ≤ 9223372036854775807 := by have := l1; simp only [maxLen] at this; omega
  have hby : (i.bytes : Int) * c ≤ 281474976710656 := by
    have h9 : c.toNat * i.bytes ≤ C.lim e * i.bytes := Nat.mul_le_mul_right _ (by omega)
    have h10 : ((i.bytes * c.toNat : Nat) : Int) ≤ 281474976710656 := by rw [Nat.mul_comm]; omega
    rw [Int.natCast_mul, Int.toNat_of_nonneg (by omega)] at h10
    exact h10
  have hr := run_make w t e i z hu a1 a2 kl kc l c h0 h1 hby (by omega)
  obtain ⟨ι', s'⟩ := new_row hf s hsd (n := l.toNat) (cap := c.toNat) (xs := List.replicate l.toNat (zeroU C 20 e)) (by simp) (by omega) (by omega) b6 (fun _ _ => by simpa using b2)
    (fun j hj => by rw [nth_replicate _ _ _ hj]; exact b4 _) b5
  exact ⟨_, _, hr, ι', s'⟩

theorem buildSlice_sound (ok : CtxOk P C) (zok : ZeroOk P C) {f : Fr} (hf : FrOk f) {ι : Own} {st : St} {a : Act} {w : World} (s : Sim C f ι st a w) {ev : Operand → AV} (hev : ∀ x, RepS C (view f ι st.sto w) ι st.sto (tmOf a) (ev x) (a.eval x))
    {t e d n : Nat} (hsd : st.sto d = none) (ht : C.te t = some (.sl e)) (hz : zeroT C 20 e = true) {ps : Array (Nat × Operand)} {us : List U} (hus : flats (ps.toList.map fun p => ev p.2) = some us)
    (hc : (ps.toList.all fun p => decide (p.1 < n) && fitsT C e (ev p.2)) = true) (hn : n * C.sz e ≤ 16777216) :
    ∃ v w', (Instr.buildSlice t n (ps.map fun p => (p.1, a.eval p.2))).run P w = .ok v w' ∧ ∃ ι', Sim C f ι' ((st.blk d (.arr e false (fillU (List.replicate n (zeroU C 20 e)) ((ps.toList.map (·.1)).zip us)))).put (some d) (.ow d none)) (a.put (some d) v) w' := by
  obtain ⟨i, z, a1, a2, _⟩ := zero_size ok zok hz
  obtain ⟨b1, b2, b3, b4, b5, b6⟩ := row_zero ok zok hz n a1 a2
  have hu := ok.und t _ ht
  simp only at hu
  obtain ⟨qs, e1, e2, e3⟩ := parts_sound hev (fun _ => e) n ps.toList us hus hc
  have hrep : ∀ j, j < n → Rep C (view f ι st.sto w) e z.cells.toList (U.nth (List.replicate n (zeroU C 20 e)) j) := fun j hj => by rw [nth_replicate _ _ _ hj]; exact b4 _
  obtain ⟨cells', k1, k2⟩ := fill_flat (fun i => some (i * C.sz e, C.sz e)) n (qs.map fun p => (p.1, p.2.1)) (fun _ => z.cells.toList) (madeCells z.cells (n * i.size)) b6
    (fun j hj => by
      have : offs (fun _ => z.cells.toList) j = j * C.sz e := by rw [← flat_len]; exact len_flatMap (fun _ _ => by simpa using b2)
      rw [this]
      simp [b2])
    (fun p hp => by
      obtain ⟨q, hq, rfl⟩ := List.mem_map.1 hp
      obtain ⟨h1, h2⟩ := e3 q hq
      refine ⟨h1, ?_⟩
      have := h2.length ok
      simpa [b2] using this)
  have hall := fill_rep (H := view f ι st.sto w) (fun _ => e) n qs (fun _ => z.cells.toList) (List.replicate n (zeroU C 20 e)) (by simp) hrep e3
  rw [e2] at hall
  rw [e1] at k1
  obtain ⟨ι', s'⟩ := new_row hf s hsd (n := n) (cap := n) (xs := fillU (List.replicate n (zeroU C 20 e)) ((ps.toList.map (·.1)).zip us)) (by simp [len_fillU]) (Nat.le_refl _)
    (by have : n * 1 ≤ n * C.sz e := Nat.mul_le_mul_left _ b3
        simp only [maxLen]; omega) k2 (fun j hj => (hall j hj).length ok) hall b5
  refine ⟨_, _, ?_, ι', s'⟩
  have k1' : Instr.fill (fun i' => some (i' * i.size, i.size)) ((Array.range (n * i.size)).map (z.cells[· % z.cells.size]!)) (ps.map fun p => (p.1, a.eval p.2)).toList = some cells' := by
    rw [b1]
    rw [b1] at k1
    simpa [madeCells] using k1
  by_cases h0 : n * i.size = 0
  · have hn0 : n = 0 := by
      rcases Nat.mul_eq_zero.1 h0 with h | h
      · exact h
      · omega
    subst hn0
    have hps : ps.toList = [] := by
      cases hp : ps.toList with
      | nil => rfl
      | cons p l => rw [hp] at hc; simp at hc
    have hps2 : ps = #[] := by apply Array.ext'; simpa using hps
    subst hps2
    simp [Instr.fill] at k1'
    subst k1'
    simp [Instr.buildSlice, run_und hu, Go.sizeOf, run_info a1, Instr.fill, newRow, Array.range_zero']
  · exact run_buildSlice w t e n _ cells' i z hu a1 a2 (by rw [b1]; omega) h0 k1'

theorem bytes_sound (ok : CtxOk P C) {f : Fr} (hf : FrOk f) {ι : Own} {st : St} {a : Act} {w : World} (s : Sim C f ι st a w) {t1 t2 e d : Nat} (h1 : C.te t1 = some .str) (h2 : C.te t2 = some (.sl e)) (he : C.te e = some (.int .u8)) (x : List UInt8) :
    ∃ v w', (convert t1 t2 (.string (str x))).run P w = .ok v w' ∧ Sim C f ι (st.put (some d) (.sl e (.ofL false (U.ofBytes x)))) (a.put (some d) v) w' := by
  have hu1 := ok.und t1 _ h1
  have hu2 := ok.und t2 _ h2
  have hue := ok.und e _ he
  simp only at hu1 hu2 hue
  have hr := Lib.run_convert_string_bytes w t1 t2 e (str x) hu1 hu2 hue
  have hk : Keep (fun _ => False) w (Lib.bytesWorld w e (str x)) := ⟨rfl, rfl, rfl, by rw [Lib.bytesWorld_size]; omega, by unfold Lib.bytesWorld World.freeze; simp only; split <;> exact Nat.le_succ _, fun k hk _ => Lib.bytesWorld_at_old w e _ k hk⟩
  obtain ⟨s', hv⟩ := s.grow hf hk
  refine ⟨_, _, hr, s'.put (some d) (fun _ _ _ => .of ?_)⟩
  refine .inr ⟨⟨w.heap.size, 0, none⟩, grownCap w (str x).size 0 e, fun i => [.int .u8 (x.getD i 0).toNat], ?_, rfl, ?_, ?_, ?_⟩
  · simp [len_ofL, U.ofBytes, size_str]
  · have := grownCap_ge w (str x).size 0 e
    simpa [len_ofL, U.ofBytes, size_str] using this
  · intro i hi
    have hi : i < x.length := by simpa [len_ofL, U.ofBytes] using hi
    rw [add_eq, ok.one e _ he (by simp)]
    refine ⟨fun _ => rfl, fun j v hj => ?_⟩
    cases j with
    | succ j => simp at hj
    | zero =>
      simp at hj
      have hc := Lib.bytesWorld_cell w e (str x) i (by rw [size_str]; exact hi)
      have hlv : ∀ id b, live st.sto id → blkOf (ι id) = some b → b < w.heap.size := fun id b l1 l2 => (s.blk id).lt l1 l2
      unfold view
      rw [if_neg, if_neg]
      · simp only [Nat.zero_add, Nat.mul_one, Nat.add_zero]
        rw [hc, ← hj]
        simp [str]
      · rintro ⟨c1, _⟩
        have := s.keep.size
        simp at c1
        omega
      · rintro ⟨id, l1, l2⟩
        have := hlv id _ l1 l2
        simp at this
  · intro i hi
    have hi : i < x.length := by simpa [len_ofL, U.ofBytes] using hi
    have : (U.ofL false (U.ofBytes x)).get i = .I (x.getD i 0).toNat := by
      simp [get_ofL, U.ofBytes, nth_get, hi, List.getD]
    rw [this]
    exact .int (u := .I _) he

theorem ncond_some {α : Type} {b : Bool} {x : Option α} {y : α} (h : (bif !b then none else x) = some y) : b = true ∧ x = some y := by
  cases b <;> simp_all
/-- 'clear' of a part of an own slice -/
theorem clear_sound (ok : CtxOk P C) (zok : ZeroOk P C) (hf : FrOk f) (s : Sim C f ι st a w) {id e t ty : Nat} {z : Bool} {xs : List U} {r : Option (Nat × Nat)} (hs : st.sto id = some (.arr e z xs)) (ht : C.te t = some (.sl e)) (hz : zeroT C 20 e = true) {v : Value} (hv : RepOw C ι st.sto id r v) :
    ∃ w', (Builtin.clear_ #[t] ty #[v]).run P w = .ok (.tuple #[]) w' ∧ Sim C f ι (st.blk id (.arr e z (spliceU xs (offOf r) (List.replicate (prt xs r).length (zeroU C 20 e))))) a w' := by
  obtain ⟨i, zv, a1, a2, a3, a4, a5, a6, a7⟩ := zero_size ok zok hz
  have hu := ok.und t _ ht
  simp only at hu
  have same : ∀ o, (st.blk id (.arr e z (spliceU xs o []))) = st := by
    intro o
    refine St.ext rfl ?_
    funext j
    simp only [St.blk, nbeq]
    by_cases hj : j = id
    · subst hj; simp [spliceU, hs]
    · simp [hj]
  obtain ⟨cs, k1, k2, k3, k4⟩ := (s.blk id).arr hs
  unfold RepOw at hv
  rw [hs] at hv
  -- the value as a slice
  have hval : ∃ n, (prt xs r).length = n ∧ ((v = .slice none 0 0 ∧ n = 0) ∨ ∃ g cap c ad, ι id = .slice (some ⟨g, 0, none⟩) xs.length cap ∧ v = .slice (some ad) n c ∧ (n = 0 ∨ (offOf r + n ≤ xs.length ∧ ad = ⟨g, offOf r * C.sz e, none⟩))) := by
    cases r with
    | none =>
      refine ⟨xs.length, rfl, ?_⟩
      simp only at hv
      rcases own_slice k1 with ⟨e1, e2⟩ | ⟨g, cap, e1⟩
      · exact .inl ⟨by rw [hv, e1], e2⟩
      · exact .inr ⟨g, cap, cap, ⟨g, 0, none⟩, e1, by rw [hv, e1], .inr ⟨by simp [offOf], by simp [offOf]⟩⟩
    | some p =>
      obtain ⟨o, n⟩ := p
      obtain ⟨hle, hv⟩ := hv
      refine ⟨n, by simp [prt]; omega, ?_⟩
      rcases hv with ⟨e1, e2, e3⟩ | ⟨g, cap, ad, e1, e2, e3, e4, e5, _⟩
      · exact .inl ⟨e2, e3⟩
      · refine .inr ⟨g, cap, cap - o, ad, e1, e2, ?_⟩
        rcases e5 with e5 | e5
        · right
          refine ⟨hle, ?_⟩
          obtain ⟨b, of, sp⟩ := ad
          simp at e3 e4 e5
          simp [e3, e4, e5, offOf]
        · exact .inl e5
  obtain ⟨n, hn, hval⟩ := hval
  rw [hn]
  by_cases h0 : n = 0
  · subst h0
    rw [List.replicate_zero, same]
    refine ⟨w, ?_, s⟩
    rcases hval with ⟨e1, _⟩ | ⟨g, cap, c, ad, e1, e2, _⟩
    · rw [e1]; simp [Builtin.clear_, run_und hu]
    · rw [e2]; simp [Builtin.clear_, run_und hu]
  · rcases hval with ⟨_, e2⟩ | ⟨g, cap, c, ad, e1, e2, e3⟩
    · exact (h0 e2).elim
    · rcases e3 with e3 | ⟨e3, rfl⟩
      · exact (h0 e3).elim
      · have hcl : (zeroCellsL zv.cells n).length = (List.replicate n (zeroU C 20 e)).length * C.sz e := by
          unfold zeroCellsL
          rw [len_flatMap (sz := C.sz e) (fun _ _ => by simpa using a4)]; simp
        obtain ⟨w', q1, q2⟩ := splice_sound hf s (o := offOf r) (ys := List.replicate n (zeroU C 20 e)) (cys := zeroCellsL zv.cells n) hs hcl (fun j hj => by
          have hj' : j < n := by simpa using hj
          unfold zeroCellsL
          rw [chunk_flatMap (fun _ _ => by simpa using a4) hj', nth_replicate _ _ _ hj']
          exact a6 _) (fun x hx => by
            unfold zeroCellsL at hx
            obtain ⟨_, _, hx⟩ := List.mem_flatMap.1 hx
            exact (a6 noV0).cells1 x hx) (by simpa using e3) e1
        refine ⟨w', ?_, q2⟩
        have hzc : (Builtin.zeroCells zv.cells n).toList = zeroCellsL zv.cells n := by
          show (madeCells zv.cells (n * zv.cells.size)).toList = _
          exact made_flat zv.cells (by omega) n
        rw [e2]
        obtain ⟨m, rfl⟩ : ∃ m, n = m + 1 := ⟨n - 1, by omega⟩
        simp [Builtin.clear_, run_und hu, run_zeroValue a1 a2, hzc]
        rw [q1]
        rfl

theorem RepVs.nilAV {H : View} {ι : Own} {sto : Sto} : ∀ {ts : List Nat} {vs : List AV} {l : List Value}, RepVs C H ι sto ts vs l → RepVs C H ι sto ts (vs.map nilAV) l
  | [], [], l, k => k
  | t :: ts, x :: xs, l, k => by
    obtain ⟨v, cs, l', h1, h2, h3, h4, h5, h6, h7⟩ := k
    have key : RepA C H ι sto (Ab.nilAV x) v ∧ ∀ u, (Ab.nilAV x).flat = some u → Rep C H t cs u := by
      cases x with
      | sl e u =>
        simp only [Ab.nilAV]
        cases hn : u.isNil with
        | false => exact ⟨h4, h6⟩
        | true =>
          have hv : v = .slice none 0 0 := by
            rcases (show RepSl C H e u v from h4) with ⟨_, _, hv⟩ | ⟨_, _, _, _, hf, _⟩
            · exact hv
            · rw [hn] at hf; cases hf
          refine ⟨hv, fun u' hu' => ?_⟩
          have hr := h6 u rfl
          cases hu'
          generalize hcs : cs = cs' at hr
          cases hr with
          | nil h h0 hn' => exact .nil h rfl rfl
          | sl cs2 h hn' => rw [hn] at hn'; cases hn'
          | st cs2 h hr hl =>
            have h3' : v = .agg cs.toArray := by unfold IsVal at h3; rw [h] at h3; exact h3
            rw [hv] at h3'; cases h3'
          | _ => simp_all [IsVal]
      | _ => exact ⟨h4, h6⟩
    exact ⟨v, cs, l', h1, h2, h3, key.1, h5, key.2, h7.nilAV⟩
  | [], _ :: _, _, k => k.elim
  | _ :: _, [], _, k => k.elim
theorem RepM.snoc {H : View} {vt : Nat} {y : List UInt8} {u : U} {e : MapEntry} : ∀ {us : List U} {es : List MapEntry}, RepM C H vt us es → e.key = .string (str y) → (∃ cs, IsVal C vt e.val cs ∧ Rep C H vt cs u) → RepM C H vt (us ++ [.ofL false [.S y, u]]) (es ++ [e])
  | [], [], _, h, k => ⟨by simpa [U.ofL, U.get, U.nth, U.toS] using h, by simpa [U.ofL, U.get, U.nth] using k, trivial⟩
  | _ :: _, _ :: _, h0, h, k => ⟨h0.1, h0.2.1, RepM.snoc h0.2.2 h k⟩
  | [], _ :: _, h, _, _ => h.elim
  | _ :: _, [], h, _, _ => h.elim
/-- a step that touches the store -/
theorem aimp_sound (ok : CtxOk P C) (zok : ZeroOk P C) (lok : LimOk P C) (hf : FrOk f) (s : Sim C f ι st a w) {ev : Operand → AV} (hev : ∀ x, RepS C (view f ι st.sto w) ι st.sto (tmOf a) (ev x) (a.eval x)) {o : Oper} {st' : St} (h : aimp C st ev o.op o.dst = some (true, st')) :
    ∃ v w', ((execOp a.eval o).run P w = .ok (.value v) w' ∨ ((execOp a.eval o).run P w = .ok .skip w' ∧ v = undef)) ∧ ∃ ι', Sim C f ι' st' (a.put o.dst v) w' := by
  unfold aimp at h
  split at h
  · -- alloc
    rename_i t d ho hd
    have plain1 : (match C.te t with | some (.fn _ _) | some (.map _ _ _) => True | _ => False) → (match st.sto d with | none => some (true, (st.blk d (.box t [.junk])).put (some d) (.pb d [])) | _ => none) = some (true, st') → ∃ v w', ((execOp a.eval o).run P w = .ok (.value v) w' ∨ ((execOp a.eval o).run P w = .ok .skip w' ∧ v = undef)) ∧ ∃ ι', Sim C f ι' st' (a.put o.dst v) w' := by
      intro ht h
      split at h
      · rename_i hsd
        cases h
        obtain ⟨i, z, z1, z2, z3, z4⟩ := zok.one t ht
        have hte : ∃ ty, C.te t = some ty := by
          cases hc : C.te t with
          | none => rw [hc] at ht; exact ht.elim
          | some ty => exact ⟨ty, rfl⟩
        have hne : ∀ fs, C.te t ≠ some (.st fs) := fun fs e => by rw [e] at ht; exact ht
        have hsz : C.sz t = 1 := by
          obtain ⟨ty, hty⟩ := hte
          exact ok.one t ty hty (fun fs e => hne fs (e ▸ hty))
        obtain ⟨ι', s'⟩ := sound_newVar hf s hsd hte (vs := [.junk]) (cells := z.cells) (by
          rw [boxTs_one hne, z3]
          exact ⟨z, [z], [], rfl, by simp [hsz], isVal_one hne, trivial, by intro u hu; simp at hu; subst hu; exact z4, fun u hu => by simp [AV.flat] at hu, rfl⟩)
        refine ⟨_, _, .inl ?_, ι', by rw [hd]; exact s'⟩
        simp [execOp, ho, Instr.alloc, run_zeroValue z1 z2, newVar, newRow]
      · cases h
    split at h
    · rename_i hte; exact plain1 (by rw [hte]; trivial) h
    · rename_i hte; exact plain1 (by rw [hte]; trivial) h
    · split at h
      · rename_i vs hsd hun
        obtain ⟨hz, h⟩ := cond_some h
        cases h
        obtain ⟨i, z, z1, z2, z3, z4, z5, z6, z7⟩ := zero_size ok zok hz
        have hrep := z6 (view f ι st.sto w)
        obtain ⟨vz, hvz⟩ := hrep.isVal
        have hra : RepA C (view f ι st.sto w) ι st.sto (ofU C t (zeroU C 20 t)) vz := hrep.ofU hvz
        obtain ⟨u1, u2, u3⟩ := unbox_sound ok s.blk (s.vle hf) hun hra
        have hcl : vz.cells.toList = z.cells.toList := by
          unfold IsVal at hvz
          split at hvz
          · rw [hvz]; simp [Value.cells]
          · rename_i hne
            obtain ⟨v2, n1, n2⟩ := hrep.one (fun fs' e' => hne fs' e')
            rw [hvz] at n1
            simp at n1; subst n1
            rw [n2, hvz]
        rw [hcl] at u1
        obtain ⟨ι', s'⟩ := sound_newVar hf s hsd z7 u1.nilAV
        refine ⟨_, _, .inl ?_, ι', by rw [hd]; exact s'⟩
        simp [execOp, ho, Instr.alloc, run_zeroValue z1 z2, newVar, newRow]
      · cases h
  · -- makeMap
    rename_i t d ho hd
    split at h
    · rename_i kt vt bt hte hsd
      cases h
      have hk : Keep (fun _ => False) w (w.alloc (.map #[] 0)) := ⟨rfl, rfl, rfl, by simp, Nat.le_refl _, fun k hk _ => heap_alloc_old w _ hk⟩
      have hset : setO ι d (.map (some w.heap.size)) d = .map (some w.heap.size) := by simp [setO]
      have hst : (st.blk d (.mp t [])).sto d = some (.mp t []) := by simp [St.blk, nbeq]
      obtain ⟨s', hv⟩ := s.fresh hf hsd (b := .mp t []) (v := .map (some w.heap.size)) hk (fun g hg => by simp [blkOf] at hg; omega) (fun hle => by
        unfold BlkOk
        rw [hst]
        exact ⟨w.heap.size, #[], 0, kt, vt, bt, hset, heap_alloc_new w _, hte, trivial⟩)
      refine ⟨.map (some w.heap.size), w.alloc (.map #[] 0), .inl ?_, _, by
        rw [hd]
        refine s'.put (some d) (fun _ _ _ => .of ?_)
        show RepMp _ _ d _
        unfold RepMp
        rw [hst]
        exact hset.symm⟩
      have hmk : (Instr.makeMap t none).run P w = .ok (.map (some w.heap.size)) (w.alloc (.map #[] 0)) := rfl
      simp [execOp, ho, hmk]
    · cases h
  · -- mapUpdate
    rename_i t m k x ho hd
    split at h
    · rename_i kt vt bt id y u hte hm hk hx
      split at h
      · rename_i t' us hs hkt
        obtain ⟨hc, h'⟩ := cond_some h
        clear h
        simp only [Bool.and_eq_true, nbeq, decide_eq_true_eq] at hc
        obtain ⟨rfl, hfit⟩ := hc
        cases h'
        have hm' := hev m
        rw [hm] at hm'
        have hm' : RepMp ι st.sto id (a.eval m) := hm'
        have hk' := hev k
        rw [hk] at hk'
        have hk' : a.eval k = .string (str y) := hk'
        have hxcv : isCv (ev x) = false := by
          cases hc : ev x with
          | cv j w' v => rw [hc] at hx; simp [AV.flat] at hx
          | _ => rfl
        have hxr := RepA.flat (ev_not_cv (hev x) hxcv) hfit hx
        have hbk := s.blk id
        unfold BlkOk at hbk
        unfold RepMp at hm'
        rw [hs] at hbk hm'
        obtain ⟨g, es, clock, kt', vt', bt', b1, b2, b3, b4⟩ := hbk
        rw [hte] at b3
        simp only [Option.some.injEq, Ty.map.injEq] at b3
        obtain ⟨rfl, rfl, rfl⟩ := b3
        obtain ⟨u1, u2, u3, u4, u5⟩ := ok.und t _ hte
        have hv : a.eval m = .map (some g) := by rw [hm', b1]
        have hlt : g < w.heap.size := (Array.getElem?_eq_some_iff.1 b2).1
        have hg : (getObj g).run P w = .ok (.map es clock) w := by simp [getObj, Sem.run, b2]
        have fin : ∀ es' clock', (Instr.mapUpdate t (a.eval m) (a.eval k) (a.eval x)).run P w = .ok () (w.putObj g (.map es' clock')) → RepM C (view f ι st.sto w) vt (mapSet us y u) es'.toList →
            ∃ v w', ((execOp a.eval o).run P w = .ok (.value v) w' ∨ ((execOp a.eval o).run P w = .ok .skip w' ∧ v = undef)) ∧ ∃ ι', Sim C f ι' (st.blk id (.mp t (mapSet us y u))) (a.put o.dst v) w' := by
          intro es' clock' hr hR
          have hst : (st.blk id (.mp t (mapSet us y u))).sto id = some (.mp t (mapSet us y u)) := by simp [St.blk, nbeq]
          obtain ⟨s', _⟩ := s.upd hf hs (live_mp hs) (b := .mp t (mapSet us y u)) (w' := w.putObj g (.map es' clock')) (fun i => by
              by_cases hi : i = id
              · subst hi; rw [hs]; exact .inr ⟨rfl, _, hst⟩
              · have e1 : (st.blk id (.mp t (mapSet us y u))).sto i = st.sto i := by simp [St.blk, nbeq, hi]
                rw [e1]
                exact StoLe.refl ι st.sto i)
            ⟨rfl, rfl, rfl, by simp, Nat.le_refl _, fun k hk hn => World.putObj_heap_other (fun e => hn (by rw [b1, e]; rfl))⟩ (fun hle => by
              unfold BlkOk
              rw [hst]
              exact ⟨g, es', clock', kt, vt, bt, b1, by rw [World.putObj_heap_same hlt], hte, hR.mono hle⟩)
          refine ⟨undef, _, .inr ⟨?_, rfl⟩, ι, by rw [hd]; exact s'⟩
          simp [execOp, ho, hr]
        have hset : ∀ o', (setObj g o').run P w = .ok () (w.putObj g o') := fun o' => by
          simp [setObj, Sem.run, b2, World.putObj]
        rcases findNow_rep (x := y) 0 b4 with ⟨k1, k2, k3, k4⟩ | ⟨k1, j, e, k2, k3, k4, k5, k6⟩
        · refine fin (es.push { key := .string (str y), val := a.eval x, born := clock }) (clock + 1) ?_ ?_
          · rw [hv, hk']
            simp [Instr.mapUpdate, run_und u1, hg, run_checkKey u3 _ 9999 y w, run_findKey u3 k2 w, hset]
          · rw [k4, Array.toList_push]
            exact RepM.snoc b4 rfl hxr
        · refine fin (es.modify j fun e => { e with key := .string (str y), val := a.eval x }) clock ?_ ?_
          · have hj : es[j]? = some e := by simpa using k2
            have hst : (Instr.keyThatStays (.string (str y)) (.string (str y))).run P w = .ok (.string (str y)) w := by
              simp [Instr.keyThatStays, Instr.sameBits, MapKept.bytes_beq]
            rw [hv, hk']
            simp [Instr.mapUpdate, run_und u1, hg, run_checkKey u3 _ 9999 y w, run_findKey u3 k3 w, hset, hj, k4, hst]
          · rw [Array.toList_modify]
            exact k6 u _ hxr
      · cases h
    · cases h
  · -- box
    rename_i t x d ho hd
    split at h
    · rename_i vs hsd hun
      cases h
      have hx : isCv (ev x) = false := by
        cases hc : ev x with
        | cv j w' v =>
          exfalso
          rw [hc] at hun
          unfold unbox at hun
          split at hun
          · simp at hun
          · rename_i ps rt hte
            simp [fitsArg, hte, fitsT] at hun
          · simp at hun
          · rename_i ty hn _ _ hte
            cases ty <;> simp [fitsArg, hte, fitsT] at hun
          · cases hun
        | _ => rfl
      obtain ⟨u1, u2, u3⟩ := unbox_sound ok s.blk (s.vle hf) hun (ev_not_cv (hev x) hx)
      have hte : ∃ ty, C.te t = some ty := by
        unfold unbox at hun
        cases hte : C.te t with
        | none => simp [hte] at hun
        | some ty => exact ⟨ty, rfl⟩
      obtain ⟨ι', s'⟩ := sound_newVar hf s hsd hte (cells := (a.eval x).cells) u1
      refine ⟨_, _, .inl ?_, ι', by rw [hd]; exact s'⟩
      simp [execOp, ho, Instr.box, newVar, newRow]
    · cases h
  · -- store
    rename_i t xa x ho hd
    simp only [Option.map_eq_some_iff, Prod.mk.injEq, true_and] at h
    obtain ⟨st2, h, rfl⟩ := h
    have hxa : isCv (ev xa) = false := by
      cases hc : ev xa with
      | cv j w' v => rw [hc] at h; unfold astore at h; cases isPtr C t <;> simp at h
      | _ => rfl
    have hx : isCv (ev x) = false := by
      cases hc : ev x with
      | cv j w' v => rw [hc, astore_cv] at h; cases h
      | _ => rfl
    obtain ⟨w', k1, k2⟩ := astore_sound ok hf s h (ev_not_cv (hev xa) hxa) (ev_not_cv (hev x) hx)
    refine ⟨undef, w', .inr ⟨?_, rfl⟩, ι, by rw [hd]; exact k2⟩
    simp [execOp, ho, k1]
  · -- buildSlice
    rename_i t n ps d ho hd
    split at h
    · rename_i e us hsd he hus
      obtain ⟨hc, h⟩ := cond_some h
      cases h
      simp only [Bool.and_eq_true, decide_eq_true_eq] at hc
      obtain ⟨v, w', k1, ι', k2⟩ := buildSlice_sound ok zok hf s hev hsd (elt_some he) hc.2 hus hc.1.1 hc.1.2
      refine ⟨v, w', .inl ?_, ι', by rw [hd]; exact k2⟩
      simp only [execOp, ho]
      exact exec_v k1
    · cases h
  · -- makeSlice
    rename_i t l c d ho hd
    split at h
    · rename_i e _ l' _ c' hsd he hl hc
      cases hz : zeroT C 20 e with
      | false => rw [hz] at h; simp at h
      | true =>
        rw [hz] at h
        simp only [Bool.not_true, cond_false, Option.some.injEq, Prod.mk.injEq, Bool.and_eq_true, decide_eq_true_eq] at h
        obtain ⟨⟨⟨h0, h1⟩, h2⟩, rfl⟩ := h
        have e1 := hev l
        have e2 := hev c
        rw [hl] at e1
        rw [hc] at e2
        have e1 : a.eval l = .int _ _ := e1
        have e2 : a.eval c = .int _ _ := e2
        obtain ⟨v, w', k1, ι', k2⟩ := make_sound ok zok lok hf s hsd (elt_some he) hz _ _ h0 h1 h2
        refine ⟨v, w', .inl ?_, ι', by rw [hd]; exact k2⟩
        simp only [execOp, ho, e1, e2]
        exact exec_v k1
    · cases h
  · -- convert
    rename_i t1 t2 x d ho hd
    split at h
    · rename_i e y h1 h2 hx
      split at h
      · rename_i he
        cases h
        have e1 := hev x
        rw [hx] at e1
        have e1 : a.eval x = .string (str y) := e1
        obtain ⟨v, w', k1, k2⟩ := bytes_sound ok hf s (d := d) h1 h2 he y
        refine ⟨v, w', .inl ?_, ι, by rw [hd]; exact k2⟩
        simp only [execOp, ho, e1]
        exact exec_v k1
      · cases h
    · cases h
  · -- append
    rename_i c d ho hd
    split at h
    · rename_i x y t t' hcal hargs hts
      split at h
      · rename_i e ys hsd he hys
        obtain ⟨hcc, hR⟩ := ncond_some h
        clear h
        simp only [nbeq, Bool.and_eq_true, decide_eq_true_eq] at hcc
        obtain ⟨⟨rfl, hz⟩, hee⟩ := hcc
        obtain ⟨ox, oy, hca, rfl, rfl⟩ : ∃ ox oy, c.args = #[ox, oy] ∧ ev ox = x ∧ ev oy = y := by
          match hc : c.args.toList, hargs with
          | [ox, oy], hargs =>
            simp at hargs
            exact ⟨ox, oy, by apply Array.ext'; simpa using hc, hargs.1, hargs.2⟩
        have hat : c.argTypes = #[t, t] := by apply Array.ext'; simpa using hts
        have hycv : isCv (ev oy) = false := by
          cases hc : ev oy with
          | cv j w' v => rw [hc] at hys; simp [appended] at hys
          | _ => rfl
        have hy := ev_not_cv (hev oy) hycv
        have hel' : match eltOf st (ev oy) with | some e'' => e = e'' | none => True := by
          revert hee
          cases eltOf st (ev oy) with
          | none => intro _; trivial
          | some e2 => intro hee; simpa [nbeq] using hee
        have fin : ∀ {v' w'}, (Builtin.append_ #[t, t] o.type #[a.eval ox, a.eval oy]).run P w = .ok v' w' → (execOp a.eval o).run P w = .ok (.value v') w' := by
          intro v' w' hr
          simp [execOp, ho, resolve, hcal, invoke, builtin, hca, hat, hr]
        split at hR
        · rename_i hx
          simp only [Option.some.injEq, Prod.mk.injEq, decide_eq_true_eq] at hR
          obtain ⟨hlim, rfl⟩ := hR
          have hxv := hev ox
          rw [hx] at hxv
          have hxv : a.eval ox = .slice none 0 0 := hxv
          obtain ⟨v', w', ι', k1, k2⟩ := append_sound ok zok lok hf s (t := t) (ty := o.type) (elt_some he) hz (own := []) (d := d) (z := true) (xs := []) (v := .slice none 0 0) hsd (.inl ⟨rfl, rfl, rfl, rfl⟩) hy hys hel' (by simpa using hlim)
          refine ⟨v', w', .inl (fin (by rw [hxv]; exact k1)), ι', by rw [hd]; exact k2⟩
        · rename_i id hx
          split at hR
          · rename_i e' z xs hs
            obtain ⟨hc1, hR2⟩ := cond_some hR
            clear hR
            simp only [nbeq, Bool.and_eq_true, decide_eq_true_eq] at hc1
            obtain ⟨rfl, _⟩ := hc1
            simp only [Option.some.injEq, Prod.mk.injEq, decide_eq_true_eq] at hR2
            obtain ⟨hlim, rfl⟩ := hR2
            have hxv := hev ox
            rw [hx] at hxv
            have hxv : RepOw C ι st.sto id none (a.eval ox) := hxv
            unfold RepOw at hxv
            rw [hs] at hxv
            have hxv : a.eval ox = ι id := hxv
            have hne : d ≠ id := fun e => by rw [e, hs] at hsd; cases hsd
            obtain ⟨v', w', ι', k1, k2⟩ := append_sound ok zok lok hf s (t := t) (ty := o.type) (elt_some he) hz (own := [id]) (d := d) (z := z) (xs := xs) (v := ι id) (by rw [kills_sto]; simp [hne, hsd]) (.inr ⟨id, rfl, hs, rfl⟩) hy hys hel' hlim
            refine ⟨v', w', .inl (fin (by rw [hxv]; exact k1)), ι', by rw [hd]; exact k2⟩
          · cases hR
        · cases hR
      · cases h
    · cases h
  · -- clear
    rename_i c ho hd
    split at h
    · rename_i x t hcal hargs hts
      obtain ⟨ox, hca, rfl⟩ : ∃ ox, c.args = #[ox] ∧ ev ox = x := by
        match hc : c.args.toList, hargs with
        | [ox], hargs =>
          simp at hargs
          exact ⟨ox, by apply Array.ext'; simpa using hc, hargs⟩
      have hat : c.argTypes = #[t] := by apply Array.ext'; simpa using hts
      have fin : ∀ {v' w'}, (Builtin.clear_ #[t] o.type #[a.eval ox]).run P w = .ok v' w' → (execOp a.eval o).run P w = .ok (.value v') w' := by
        intro v' w' hr
        simp [execOp, ho, resolve, hcal, invoke, builtin, hca, hat, hr]
      have hxv := hev ox
      split at h
      · rename_i e' hx he
        cases h
        rw [hx] at hxv
        have hxv : a.eval ox = .slice none 0 0 := hxv
        have hu := ok.und t _ (elt_some he)
        simp only at hu
        refine ⟨.tuple #[], w, .inl (fin ?_), ι, by rw [hd]; exact s⟩
        rw [hxv]
        simp [Builtin.clear_, run_und hu]
      · rename_i id r e' hx he
        split at h
        · rename_i e z xs hs
          obtain ⟨hc, h⟩ := cond_some h
          cases h
          simp only [nbeq, Bool.and_eq_true, decide_eq_true_eq] at hc
          obtain ⟨rfl, hz⟩ := hc
          rw [hx] at hxv
          have hxv : RepOw C ι st.sto id r (a.eval ox) := hxv
          obtain ⟨w', q1, q2⟩ := clear_sound ok zok hf s (ty := o.type) hs (elt_some he) hz hxv
          exact ⟨.tuple #[], w', .inl (fin q1), ι, by rw [hd]; exact q2⟩
        · cases h
      · cases h
    · cases h
  · cases h
end

end Go.Ab
