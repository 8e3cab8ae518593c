/- append. -/
import Derived.Test.YtnahhhaicalmcaaDoorAbImp
set_option linter.unusedVariables false
set_option linter.unusedSimpArgs false
namespace Go.Ab
open Go.RowKit
variable {C : Ctx} {P : Program}

theorem run_append_none' {P : Program} (w : World) (t ty e : TypeId) (i : TypeInfo) (ht : P.underlying t = some (.slice e)) (hi : P.info? e = some i) (v : Value) (hv : v = .slice none 0 0 ∨ ∃ a n cap, v = .slice (some a) n cap ∧ n ≤ cap) :
    (Builtin.append_ #[t, t] ty #[v, .slice none 0 0]).run P w = .ok v w := by
  rcases hv with rfl | ⟨a, n, cap, rfl, h⟩
  · simp [Builtin.append_, run_underlying ht, sizeOf, typeInfo, hi, Builtin.lenOf, run_firstCells_none]
  · simp [Builtin.append_, run_underlying ht, sizeOf, typeInfo, hi, Builtin.lenOf, run_firstCells_none, h, storeCells]
theorem run_append_blk {P : Program} (w : World) (t ty e : TypeId) (i : TypeInfo) (z : Value) (size : Nat) (ht : P.underlying t = some (.slice e)) (hi : P.info? e = some i) (hz : i.zero = some z)
    (hsize : i.size = size) (hzs : z.cells.size = size) (hsz : 0 < size)
    (v : Value) (n : Nat) (xs : List Value) (hown : w.owns e size v n xs)
    (a : Addr) (m c : Nat) (news : List Value) (hl : news.length = m * size) (hnews : ∀ j u, news[j]? = some u → w.cell? (a.add j) = some u) (h1 : ∀ u ∈ news, u.oneCell' = true)
    (h63 : n + m ≤ maxLen) (hbytes : (n + m) * i.bytes ≤ 140737488355328) :
    ∃ v' w', (Builtin.append_ #[t, t] ty #[v, .slice (some a) m c]).run P w = .ok v' w' ∧ w'.owns e size v' (n + m) (xs ++ news) ∧ w.grownBy w' v.ownBlock ∧
      (v' = .slice none 0 0 ↔ v = .slice none 0 0 ∧ m = 0) ∧ ∀ g, blkOf v' = some g → w.heap.size ≤ g ∨ blkOf v = some g := by
  rcases hown.2 with ⟨rfl, rfl⟩ | ⟨g0, cap, cur, rfl, _, hg0, hnc, hcm, hcs, htake⟩
  · obtain ⟨v', w', k1, k2, k3, k4⟩ := run_append_own w w.heap.size t ty e i z size i.bytes ht hi hz hsize rfl hzs hsz _ 0 xs ⟨hown.1, .inl ⟨rfl, rfl⟩⟩ a m c news hl hnews h1 h63 hbytes (Nat.le_refl _)
    refine ⟨v', w', k1, World.owns_of k2, k3, k4, fun g hg => ?_⟩
    rcases k2.2 with ⟨h2, _⟩ | ⟨g2, cap2, cur2, h2, h3, _⟩
    · rw [h2] at hg; simp [blkOf] at hg
    · rw [h2] at hg; simp [blkOf] at hg; subst hg; exact .inl h3
  · have hxl := hown.1
    have hsum : (n + m) * size = n * size + m * size := Nat.add_mul ..
    have hlen : (xs ++ news).length = (n + m) * size := by rw [List.length_append, hxl, hl, hsum]
    by_cases hroom : n + m ≤ cap
    · have hcap : (n + m) * size ≤ cur.size := Nat.le_trans (Nat.mul_le_mul_right _ hroom) hcs
      have hst := run_storeCells_at P g0 (n * size) e news 0 cur w hg0 (by omega) h1
      have hf := run_firstCells_some (P := P) w i.size m a m c news (by rw [hsize]; exact hl) hnews
      have hadd : (⟨g0, 0, none⟩ : Addr).add (n * size) = ⟨g0, n * size, none⟩ := by rw [add_eq, Nat.zero_add]
      simp only [Nat.add_zero] at hst
      rw [htake] at hst
      obtain ⟨cur', hcur'⟩ : ∃ c' : Array Value, c' = (xs ++ news ++ cur.toList.drop (n * size + news.length)).toArray := ⟨_, rfl⟩
      rw [← hcur'] at hst
      refine ⟨.slice (some ⟨g0, 0, none⟩) (n + m) cap, w.setRow g0 cur', ?_, ⟨hlen, .inr ⟨g0, cap, cur', rfl, trivial, setRow_heap w g0 cur cur' e _ hg0, hroom, hcm, ?_, ?_⟩⟩, ⟨rfl, rfl, rfl, by simp, fun k _ hk => setRow_other w g0 k _ (fun e => hk (by simp [Value.ownBlock, e]))⟩, by simp, fun g hg => .inr hg⟩
      · subst hsize
        simp [Builtin.append_, run_underlying ht, sizeOf, typeInfo, hi, Builtin.lenOf, hroom, hf, hadd, hst]
      · rw [hcur']
        simp only [List.size_toArray, List.length_append, List.length_drop, Array.length_toList]
        rw [hxl, hl]
        have : cap * size ≤ cur.size := hcs
        omega
      · rw [hcur']
        show (xs ++ news ++ _).take ((n + m) * size) = _
        rw [← hlen]; exact List.take_left
    · have holds : ∀ j u, xs[j]? = some u → w.cell? ((⟨g0, 0, none⟩ : Addr).add j) = some u := hown.cells (g := g0) rfl
      have hr := run_append_grow (P := P) w t ty e i z ht hi hz ⟨g0, 0, none⟩ n cap xs (by rw [hsize]; exact hown.1) holds a m c news (by rw [hsize]; exact hl) hnews (by omega) (by simp only [maxLen] at h63; omega) (growslice_fits (by omega) hbytes)
      have hge := grownCap_ge w (n + m) cap e
      have hcm2 : grownCap w (n + m) cap e ≤ maxLen := grownCap_le_maxLen w (n + m) cap e h63
      refine ⟨_, _, hr, ⟨hlen, .inr ⟨w.heap.size, _, _, rfl, trivial, heap_alloc_new w.drew _, hge, hcm2, ?_, ?_⟩⟩, ⟨rfl, rfl, rfl, by simp, fun k hk _ => heap_alloc_old w.drew _ hk⟩, ?_, fun g hg => ?_⟩
      · simp only [Array.size_append, List.size_toArray, size_zeroCells, hzs, hxl, hl, ← Nat.add_mul]
        refine Nat.le_of_eq ?_
        congr 1
        omega
      · simp only [Array.toList_append]
        rw [← hlen]
        exact List.take_left
      · simp
      · simp [blkOf] at hg
        subst hg
        exact .inl (Nat.le_refl _)

/-- the cells of a slice's elements, one behind the other -/
theorem cells_of_slice (ok : CtxOk P C) {H : View} {w : World} {e : Nat} {u : U} {a : Addr} {cs : Nat → List Value} (h4 : ∀ i, i < u.len → At (World.view w) (a.add (i * C.sz e)) (cs i)) (h5 : ∀ i, i < u.len → Rep C H e (cs i) (u.get i)) :
    ((List.range u.len).flatMap cs).length = u.len * C.sz e ∧ (∀ j v, ((List.range u.len).flatMap cs)[j]? = some v → w.cell? (a.add j) = some v) ∧ (∀ v ∈ (List.range u.len).flatMap cs, v.oneCell' = true) ∧
      ∀ i, i < u.len → chunk ((List.range u.len).flatMap cs) (C.sz e) i = cs i := by
  have hlen : ∀ n, n ≤ u.len → ((List.range n).flatMap cs).length = n * C.sz e := by
    intro n
    induction n with
    | zero => intro _; simp
    | succ n ih =>
      intro hn
      rw [List.range_succ, List.flatMap_append, List.length_append, ih (by omega)]
      simp [(h5 n (by omega)).length ok, Nat.add_mul]
  have hget : ∀ n, n ≤ u.len → ∀ i, i < n → ∀ k, k < C.sz e → ((List.range n).flatMap cs)[i * C.sz e + k]? = (cs i)[k]? := by
    intro n
    induction n with
    | zero => intro _ i hi; omega
    | succ n ih =>
      intro hn i hi k hk
      rw [List.range_succ, List.flatMap_append]
      by_cases hin : i < n
      · have hlt : i * C.sz e + k < n * C.sz e := by
          have : (i + 1) * C.sz e ≤ n * C.sz e := Nat.mul_le_mul_right _ hin
          rw [Nat.add_mul] at this; omega
        rw [List.getElem?_append_left (by rw [hlen n (by omega)]; exact hlt)]
        exact ih (by omega) i hin k hk
      · obtain rfl : i = n := by omega
        rw [List.getElem?_append_right (by rw [hlen i (by omega)]; omega), hlen i (by omega)]
        simp
  refine ⟨hlen _ (Nat.le_refl _), fun j v hv => ?_, fun v hv => ?_, fun i hi => ?_⟩
  · have hj : j < u.len * C.sz e := by rw [← hlen u.len (Nat.le_refl _)]; exact (List.getElem?_eq_some_iff.1 hv).1
    have h0 : 0 < C.sz e := Nat.pos_of_ne_zero (fun h => by rw [h] at hj; simp at hj)
    have hi : j / C.sz e < u.len := Nat.div_lt_of_lt_mul (by rw [Nat.mul_comm]; exact hj)
    have hk : j % C.sz e < C.sz e := Nat.mod_lt _ h0
    have hjj : j = j / C.sz e * C.sz e + j % C.sz e := by rw [Nat.mul_comm]; exact (Nat.div_add_mod j (C.sz e)).symm
    have hsp := RepSl.spot ok (cap := 0) h4 h5 (Nat.lt_of_le_of_lt (Nat.zero_le _) hi)
    rw [hjj, hget u.len (Nat.le_refl _) _ hi _ hk] at hv
    have := (h4 _ hi).2 _ _ hv
    obtain ⟨b, o, s⟩ := a
    simp at hsp; subst hsp
    rw [add_eq] at this ⊢
    rw [hjj]
    rw [Nat.add_assoc] at this
    exact this
  · obtain ⟨i, hi, hv⟩ := List.mem_flatMap.1 hv
    exact (h5 i (by simpa using hi)).cells1 v hv
  · unfold chunk
    have hl := (h5 i hi).length ok
    apply List.ext_getElem?
    intro k
    by_cases hk : k < C.sz e
    · rw [List.getElem?_take_of_lt hk, List.getElem?_drop, hget u.len (Nat.le_refl _) i hi k hk]
    · rw [List.getElem?_eq_none (by simp; omega), List.getElem?_eq_none (by omega)]

theorem chunk_append {l l' : List Value} {n size i : Nat} (hl : l.length = n * size) : chunk (l ++ l') size i = if i < n then chunk l size i else chunk l' size (i - n) := by
  unfold chunk
  by_cases h : i < n
  · rw [if_pos h]
    have : i * size + size ≤ n * size := by
      have : (i + 1) * size ≤ n * size := Nat.mul_le_mul_right _ h
      rwa [Nat.add_mul, Nat.one_mul] at this
    rw [List.drop_append_of_le_length (by omega), List.take_append_of_le_length (by simp; omega)]
  · rw [if_neg h]
    have e : i * size = n * size + (i - n) * size := by rw [← Nat.add_mul]; congr 1; omega
    rw [e, ← hl, List.drop_append, List.drop_eq_nil_of_le (by omega)]
    simp
theorem nth_append (xs ys : List U) (i : Nat) : U.nth (xs ++ ys) i = if i < xs.length then U.nth xs i else U.nth ys (i - xs.length) := by
  simp only [nth_get, List.getElem?_append]
  split <;> rfl

theorem zero_size (ok : CtxOk P C) (zok : ZeroOk P C) {e : Nat} (hz : zeroT C 20 e = true) : ∃ i z, P.info? e = some i ∧ i.zero = some z ∧ i.size = C.sz e ∧ z.cells.size = C.sz e ∧ 0 < C.sz e ∧ (∀ H, Rep C H e z.cells.toList (zeroU C 20 e)) ∧ ∃ ty, C.te e = some ty := by
  obtain ⟨i, z, h1, h2, h3⟩ := zok.zero e hz
  have hl := (h3 noV).length ok
  obtain ⟨ty, ht⟩ := (h3 noV).te
  have hnp : ∀ e', ty ≠ .ptr e' := by
    intro e' h
    subst h
    rw [show (20 : Nat) = 19 + 1 from rfl, zeroT, ht] at hz
    simp at hz
  obtain ⟨i', h4, h5⟩ := ok.size e ty ht hnp
  rw [h1] at h4; cases h4
  exact ⟨i, z, h1, h2, h5, by simpa using hl, ok.szpos ht, h3, ty, ht⟩

/-- what is appended, as a slice in memory -/
theorem appended_rep {H : View} {ι : Own} {st : St} {w : World} (hb : ∀ id, BlkOk C H ι st.sto w id) (hH : H.le (World.view w)) {y : AV} {v : Value} {ys : List U} {e : Nat} (hy : RepA C H ι st.sto y v) (h : appended st y = some ys)
    (he : match eltOf st y with | some e'' => e = e'' | none => True) : ∃ u : U, u.toL = ys ∧ RepSl2 C H (World.view w) e u v := by
  cases y with
  | nl =>
    simp [appended] at h; subst h
    exact ⟨U.nil, rfl, .inl ⟨rfl, rfl, hy⟩⟩
  | sl e' u =>
    simp [appended] at h; subst h
    simp [eltOf] at he
    subst he
    exact ⟨u, rfl, RepSl.two hH hy⟩
  | ow id r =>
    cases hs : st.sto id with
    | none => simp [appended, hs] at h
    | some b =>
      cases b with
      | arr e' z xs =>
        simp [appended, hs] at h; subst h
        simp [eltOf, hs] at he
        subst he
        exact ⟨owU z xs r, toL_ofL _ _, ow_repSl2 (hb id) hs (fun _ _ _ _ h => h) hy⟩
      | _ => simp [appended, hs] at h
  | _ => simp [appended] at h

/-- the row after an append: its elements -/
theorem append_row (ok : CtxOk P C) (zok : ZeroOk P C) (lok : LimOk P C) {H : View} {w : World} {t ty e : Nat} (ht : C.te t = some (.sl e)) (hz : zeroT C 20 e = true) {v vy : Value} {xs : List U} {cs : List Value}
    (hown : w.owns e (C.sz e) v xs.length cs) (hr : ∀ i, i < xs.length → Rep C H e (chunk cs (C.sz e) i) (U.nth xs i)) {u : U} (hy : RepSl2 C H (World.view w) e u vy) (hlim : xs.length + u.toL.length ≤ C.lim e) :
    ∃ v' w' cs', (Builtin.append_ #[t, t] ty #[v, vy]).run P w = .ok v' w' ∧ w'.owns e (C.sz e) v' (xs ++ u.toL).length cs' ∧ (∀ i, i < (xs ++ u.toL).length → Rep C H e (chunk cs' (C.sz e) i) (U.nth (xs ++ u.toL) i)) ∧
      w.grownBy w' v.ownBlock ∧ (v' = .slice none 0 0 ↔ v = .slice none 0 0 ∧ u.toL = []) ∧ ∀ g, blkOf v' = some g → w.heap.size ≤ g ∨ blkOf v = some g := by
  obtain ⟨i, z, z1, z2, z3, z4, z5, z6, z7⟩ := zero_size ok zok hz
  have hu := ok.und t _ ht
  simp only at hu
  rw [toL_len] at hlim
  rcases hy with ⟨h1, h2, rfl⟩ | ⟨a, cap, cy, rfl, h2, h3, h4, h5⟩
  · have hnil : u.toL = [] := List.eq_nil_of_length_eq_zero (by rw [toL_len, h1])
    refine ⟨v, w, cs, run_append_none' w t ty e i hu z1 v (by rcases hown.2 with ⟨h, _⟩ | ⟨g, cap, cur, h, _, _, h', _⟩; exact .inl h; exact .inr ⟨_, _, _, h, h'⟩), by simpa [hnil] using hown, by simpa [hnil] using hr, ⟨rfl, rfl, rfl, Nat.le_refl _, fun _ _ _ => rfl⟩, by simp [hnil], fun g hg => .inr hg⟩
  · obtain ⟨l1, l2⟩ := lok e i z1
    obtain ⟨c1, c2, c3, c4⟩ := cells_of_slice ok h4 h5
    obtain ⟨v', w', k1, k2, k3, k4, k5⟩ := run_append_blk w t ty e i z (C.sz e) hu z1 z2 z3 z4 z5 v _ cs hown a u.len cap _ c1 c2 c3 (by omega) (Nat.le_trans (Nat.mul_le_mul_right _ hlim) l2)
    refine ⟨v', w', _, k1, by simpa [toL_len] using k2, fun j hj => ?_, k3, ?_, k5⟩
    · rw [chunk_append hown.1, nth_append]
      by_cases hjx : j < xs.length
      · rw [if_pos hjx, if_pos hjx]; exact hr j hjx
      · rw [if_neg hjx, if_neg hjx]
        have hju : j - xs.length < u.len := by simp [toL_len] at hj; omega
        rw [c4 _ hju, toL_nth u _ hju]
        exact h5 _ hju
    · rw [k4]
      constructor
      · rintro ⟨a1, a2⟩; exact ⟨a1, List.eq_nil_of_length_eq_zero (by rw [toL_len, a2])⟩
      · rintro ⟨a1, a2⟩; exact ⟨a1, by rw [← toL_len, a2]; rfl⟩

theorem ownBlock_eq (v : Value) (h : (∀ a, v ≠ .pointer a) ∧ ∀ a, v ≠ .map a) : v.ownBlock = blkOf v := by
  cases v with
  | slice a n c => cases a <;> rfl
  | pointer a => exact (h.1 a rfl).elim
  | map a => exact (h.2 a rfl).elim
  | _ => rfl

theorem append_sound (ok : CtxOk P C) (zok : ZeroOk P C) (lok : LimOk P C) {f : Fr} (hf : FrOk f) {ι : Own} {st : St} {a : Act} {w : World} (s : Sim C f ι st a w) {t ty e : Nat} (ht : C.te t = some (.sl e)) (hz : zeroT C 20 e = true)
    {v vy : Value} {z : Bool} {xs ys : List U} {y : AV} {own : List Nat} {d : Nat} (hd : (kills st own).sto d = none)
    (hx : (own = [] ∧ xs = [] ∧ z = true ∧ v = .slice none 0 0) ∨ ∃ id, own = [id] ∧ st.sto id = some (.arr e z xs) ∧ v = ι id)
    (hy : RepA C (view f ι st.sto w) ι st.sto y vy) (hys : appended st y = some ys) (he : match eltOf st y with | some e'' => e = e'' | none => True) (hlim : xs.length + ys.length ≤ C.lim e) :
    ∃ v' w' ι', (Builtin.append_ #[t, t] ty #[v, vy]).run P w = .ok v' w' ∧ Sim C f ι' (((kills st own).blk d (.arr e z (xs ++ ys))).put (some d) (.ow d none)) (a.put (some d) v') w' := by
  obtain ⟨u, rfl, hyr⟩ := appended_rep s.blk (s.vle hf) hy hys he
  have hzs := zero_size ok zok hz
  obtain ⟨_, _, _, _, _, _, _, _, hte⟩ := hzs
  have hrow : ∃ cs, w.owns e (C.sz e) v xs.length cs ∧ (∀ i, i < xs.length → Rep C (view f ι st.sto w) e (chunk cs (C.sz e) i) (U.nth xs i)) ∧ (v = .slice none 0 0 ↔ z = true ∧ xs = []) ∧ (∀ b, blkOf v = some b ↔ ∃ id ∈ own, live st.sto id ∧ blkOf (ι id) = some b) ∧ (∀ a, v ≠ .pointer a) ∧ ∀ a, v ≠ .map a := by
    rcases hx with ⟨rfl, rfl, rfl, rfl⟩ | ⟨id, rfl, hs, rfl⟩
    · exact ⟨[], ⟨by simp, .inl ⟨rfl, rfl⟩⟩, fun i hi => by simp at hi, by simp, by simp [blkOf], by simp⟩
    · obtain ⟨cs, k1, k2, k3, k4⟩ := (s.blk id).arr hs
      refine ⟨cs, k1, k2, k3, fun b => ?_, ?_⟩
      · simp [live_arr hs]
      · rcases own_slice k1 with ⟨h, _⟩ | ⟨g, cap, h⟩ <;> simp [h]
  obtain ⟨cs, r1, r2, r3, r4, r5⟩ := hrow
  obtain ⟨v', w', cs', k1, k2, k3, k4, k5, k6⟩ := append_row ok zok lok (H := view f ι st.sto w) (ty := ty) ht hz r1 r2 hyr (by simpa using hlim)
  refine ⟨v', w', ?_⟩
  let f' : Fr := ⟨view f ι st.sto w, w, fun b => ∃ id ∈ own, live st.sto id ∧ blkOf (ι id) = some b, fun _ _ => False⟩
  have hV0 : (view f ι st.sto w).le (retV f' w' (fun b => blkOf v' = some b)) := by
    intro b o x hx
    have hnl : ¬ ∃ id, live st.sto id ∧ blkOf (ι id) = some b := by
      intro h
      unfold view at hx
      rw [if_pos h] at hx
      cases hx
    have hlt : b < w.heap.size := World.block_lt_of_cell? w _ (s.vle hf _ _ _ hx)
    have hO : ¬ f'.O b := fun ⟨id, _, h2, h3⟩ => hnl ⟨id, h2, h3⟩
    unfold retV
    rw [if_neg, if_pos ⟨hlt, hO⟩]
    · exact hx
    · intro hb
      rcases k6 b hb with h | h
      · omega
      · exact hO ((r4 b).1 h)
  have hl := (LayOk.refl (C := C) (f := f') (w := w') (V := retV f' w' (fun b => blkOf v' = some b)) (X := fun b => blkOf v' = some b) (N := []) (ι := ι) (st := kills st own)).add hd (e := e) (z := z) (xs := xs ++ u.toL) (v := v')
    ⟨cs', k2, fun i hi => (k3 i hi).mono hV0, by
      rw [k5, r3]
      simp only [List.append_eq_nil_iff]
      constructor
      · rintro ⟨⟨a, b⟩, c⟩; exact ⟨a, b, c⟩
      · rintro ⟨a, b, c⟩; exact ⟨⟨a, b⟩, c⟩, hte⟩
    (fun b hb => ⟨hb, (k6 b hb).imp (fun h => h) (fun h => (r4 b).1 h), by simp⟩)
  have hkeep : Keep f'.O w w' := ⟨k4.os, k4.tape, k4.output, k4.size, run_drawn _ _ k1, fun k hk hn => k4.block k hk (fun h => hn ((r4 k).1 (by rw [← ownBlock_eq v r5, ← h])))⟩
  obtain ⟨z1, z2⟩ := call_step hf s (f' := f') rfl (fun b => Iff.rfl) hkeep hl (.inr ⟨View.le.refl _, View.le.refl _⟩)
  refine ⟨_, k1, z1.put (some d) (fun _ _ _ => .of ?_)⟩
  simp [RepA, RepOw, St.blk, nbeq, setO]

end Go.Ab
