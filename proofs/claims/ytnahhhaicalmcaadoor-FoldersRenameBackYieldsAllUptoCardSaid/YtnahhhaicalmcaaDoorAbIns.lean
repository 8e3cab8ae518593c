/- What slices.Insert does to rows, step by step. -/
import Derived.Test.YtnahhhaicalmcaaDoorAbVal
import Derived.Test.YtnahhhaicalmcaaDoorAbRow
set_option linter.unusedVariables false
set_option linter.unusedSimpArgs false
namespace Go.Ab
open Go.RowKit
variable {C : Ctx} {P : Program}

theorem run_copy_blk (ok : CtxOk P C) (w : World) (t ty e : Nat) (ht : C.te t = some (.sl e)) (g o dLen dCap : Nat) (a : Addr) (sLen sCap : Nat) (cur : Array Value) (tt : TypeId) (cs : List Value)
    (hg : w.heap[g]? = some (.cells cur tt (0, 0))) (hn : cs.length = Nat.min sLen dLen * C.sz e)
    (hsrc : ∀ j v, cs[j]? = some v → w.cell? (a.add j) = some v) (hfit : o + cs.length ≤ cur.size) (h1 : ∀ v ∈ cs, v.oneCell' = true) :
    (Builtin.copy_ #[t, t] ty #[.slice (some ⟨g, o, none⟩) dLen dCap, .slice (some a) sLen sCap]).run P w =
      .ok (.int .i64 (Nat.min sLen dLen : Nat)) (w.setRow g (splice cur.toList o cs).toArray) := by
  have hu := ok.und t _ ht
  simp only at hu
  obtain ⟨tye, hte, hnp⟩ := ok.elem t e ht
  have hl := run_loadCells_list (P := P) w a cs hsrc
  have hst := run_storeCells_at P g o tt cs 0 cur w hg (by simpa using hfit) h1
  simp [goInt, Builtin.copy_, hl, hst, run_und hu, splice, Builtin.lenOf, ok.sizeOf hte hnp, Builtin.firstCells, ← hn]

theorem run_append_make (ok : CtxOk P C) (zok : ZeroOk P C) (w : World) (t tI ty e : Nat) (ht : C.te t = some (.sl e)) (hI : C.te tI = some (.int .i64)) (hz : zeroT C 20 e = true) (g i n cap k : Nat) (xs : List Value) (hown : w.owns e (C.sz e) (.slice (some ⟨g, 0, none⟩) n cap) n xs)
    (hin : i ≤ n) (hgrow : cap < i + k) (h63 : i + k ≤ maxLen) {inf : TypeInfo} (hinf : P.info? e = some inf) (hbytes : (i + k) * inf.bytes ≤ 140737488355328) :
    ∃ cap' zs w', (Builtin.append_ #[t, tI] ty #[.slice (some ⟨g, 0, none⟩) i cap, .int .i64 k]).run P w = .ok (.slice (some ⟨w.heap.size, 0, none⟩) (i + k) cap') w' ∧
      w'.ownsRow 0 e (C.sz e) (.slice (some ⟨w.heap.size, 0, none⟩) (i + k) cap') (i + k) (xs.take (i * C.sz e) ++ zs) ∧ zs.length = k * C.sz e ∧ w.grownBy w' none := by
  obtain ⟨i', z, a1, a2, a3, a4, a5, a6, a7⟩ := zero_size ok zok hz
  rw [hinf] at a1; cases a1
  have hu := ok.und t _ ht
  have hui := ok.und tI _ hI
  simp only at hu hui
  rcases hown.2 with ⟨e1, _⟩ | ⟨g', cap', cur, e1, _, e3, e4, e5, e6, e7⟩
  · cases e1
  · cases e1
    have hxl := hown.1
    have hil : i * C.sz e ≤ n * C.sz e := Nat.mul_le_mul_right _ hin
    have hol : (xs.take (i * C.sz e)).length = i * inf.size := by rw [a3]; simp; omega
    have hcells := hown.cells (g := g) rfl
    have hfo := run_firstCells_some (P := P) w.drew inf.size i ⟨g, 0, none⟩ i cap (xs.take (i * C.sz e)) hol (fun j v hv => by
      rw [List.getElem?_take] at hv
      split at hv
      · simpa using hcells j v hv
      · cases hv)
    have hk0 : k ≠ 0 := by omega
    have hwrap : IntKind.i64.wrap (k : Int) = k := by
      have : (k : Int) ≤ 9223372036854775807 := by simp only [maxLen] at h63; omega
      simp [IntKind.wrap, IntKind.signed, IntKind.bits]; omega
    have hnz : ¬ (k * inf.size = 0) := by rw [a3]; exact Nat.mul_ne_zero hk0 (by omega)
    have hby : ¬ ((281474976710656 : Int) < (k : Int) * inf.bytes) := by
      have h2 : k * inf.bytes ≤ (i + k) * inf.bytes := Nat.mul_le_mul_right _ (by omega)
      have : ((k * inf.bytes : Nat) : Int) ≤ 281474976710656 := by omega
      rw [Int.natCast_mul] at this
      omega
    have hneed : ¬ (i + k ≤ cap) := by omega
    have h63' : ¬ (9223372036854775807 < ((i : Int) + (k : Int))) := by simp only [maxLen] at h63; omega
    have hfit := growslice_fits (need := i + k) (old := cap) (bytes := inf.bytes) (by omega) hbytes
    have h48' : ¬ (281474976710656 < Builtin.nextslicecap (i + k) cap * inf.bytes) := by omega
    refine ⟨grownCap w (i + k) cap e, (Builtin.zeroCells z.cells k).toList, w.drew.alloc (.cells ((xs.take (i * C.sz e)).toArray ++ Builtin.zeroCells z.cells k ++ Builtin.zeroCells z.cells (grownCap w (i + k) cap e - (i + k))) e), ?_, ?_, ?_, ?_⟩
    · have hsz : inf.size ≠ 0 := by omega
      simp [Builtin.append_, run_underlying hu, run_underlying hui, asIntOf, sizeOf, typeInfo, zeroValue, hinf, a2, hneed, h63', h48', Question.forced, hfo, newRow, grownCap, asInt, hwrap, hby, hk0, hsz, (show ¬ ((k : Int) < 0) by omega)]
      exact fun h => (hnz h).elim
    · have hge := grownCap_ge w (i + k) cap e
      have hcm : grownCap w (i + k) cap e ≤ maxLen := grownCap_le_maxLen w (i + k) cap e h63
      have hl2 : (xs.take (i * C.sz e) ++ (Builtin.zeroCells z.cells k).toList).length = (i + k) * C.sz e := by
        rw [List.length_append, hol, a3]; simp [size_zeroCells, a4, Nat.add_mul]
      refine ⟨hl2, .inr ⟨w.heap.size, _, _, rfl, Nat.zero_le _, heap_alloc_new w.drew _, hge, hcm, ?_, ?_⟩⟩
      · simp only [Array.size_append, List.size_toArray, size_zeroCells, a4, hol, a3, ← Nat.add_mul]
        congr 1
        omega
      · simp only [Array.toList_append, List.append_assoc]
        rw [← List.append_assoc, ← hl2]
        exact List.take_left
    · simp [size_zeroCells, a4]
    · exact ⟨rfl, rfl, rfl, by simp, fun j hj _ => heap_alloc_old w.drew _ hj⟩

theorem wp_vregion (ok : CtxOk P C) {id : Nat} {l : List Oper} {tm tm' : List Value} {Q : Exit → Act → World → Prop} {w : World} (h : vlist C l tm = some (true, tm')) (hn : Q .normal (act tm') w) : (Code.region id l.toArray false).wp P Q (act tm) w := by
  refine wp_region_lit ?_
  have := vlist_sound (P := P) ok (ops := l.toArray) (rest := []) (Q := Q) (w := w) h hn
  rwa [List.append_nil] at this
theorem wp_vpart (ok : CtxOk P C) {id : Nat} {l : List Oper} (m : Nat) {tm tm' : List Value} {Q : Exit → Act → World → Prop} {w : World} (h : vlist C (l.take m) tm = some (true, tm')) (hn : wpList P l.toArray Q (l.drop m) (act tm') w) : (Code.region id l.toArray false).wp P Q (act tm) w := by
  refine wp_region_lit ?_
  have := vlist_sound (P := P) ok (ops := l.toArray) (rest := l.drop m) (Q := Q) (w := w) h hn
  rwa [List.take_append_drop] at this
theorem wp_vdrawn (ok : CtxOk P C) {id : Nat} {l : List Oper} (m : Nat) {tm tm' : List Value} {Q : Exit → Act → World → Prop} {w : World} (hB : Region.lexTailB .any l.toArray m = true) (h : vlist C (l.take m) tm = some (true, tm')) (hn : wpList P l.toArray Q (l.drop m) (act tm') { w with drawn := w.drawn + 1 }) : (Code.region id l.toArray true).wp P Q (act tm) w :=
  wp_region_still_tail m ok.mixed hB (vlist_still ok h hn)
theorem wpList_val {ops : Array Oper} {rest : List Oper} {o : Oper} {l : List Value} {v : Value} {w w' : World} {Q : Exit → Act → World → Prop} (hg : o.guard = none) (h : (execOp (act l).eval o).run P w = .ok (.value v) w') (hn : wpList P ops Q rest (act (vput l o.dst v)) w') : wpList P ops Q (o :: rest) (act l) w := by
  unfold wpList
  have hw : Region.wanted o (yielded ops (act l).tmps) = true := by simp [Region.wanted, hg]
  rw [if_pos hw]
  refine .inl (wp_value h ?_)
  rw [act_put]
  exact hn
theorem wp_vtail (ok : CtxOk P C) {ops : Array Oper} {os : List Oper} {l l' : List Value} {Q : Exit → Act → World → Prop} {w : World} (h : vlist C os l = some (true, l')) (hn : Q .normal (act l') w) : wpList P ops Q os (act l) w := by
  have := vlist_sound (P := P) ok (ops := ops) (rest := []) (Q := Q) (w := w) h hn
  rwa [List.append_nil] at this
theorem addr_at {c l g k : Nat} (h : c ≠ l) : (bif Nat.beq c l then (⟨g, 0, none⟩ : Addr) else Addr.add ⟨g, 0, none⟩ (l * k)) = ⟨g, l * k, none⟩ := by
  rw [nbeq, decide_eq_false h, cond_false, add_eq, Nat.zero_add]
theorem addr0 {c g k : Nat} : (bif Nat.beq c 0 then (⟨g, 0, none⟩ : Addr) else Addr.add ⟨g, 0, none⟩ (0 * k)) = ⟨g, 0, none⟩ := by
  cases Nat.beq c 0 <;> simp [Addr.add]
theorem addr_blk {c l g k : Nat} : (bif Nat.beq c l then (⟨g, 0, none⟩ : Addr) else Addr.add ⟨g, 0, none⟩ (l * k)).block = g := by
  cases Nat.beq c l with
  | true => rfl
  | false => simp [add_eq]
theorem exec_append {l : List Value} {o : Oper} {x y : Operand} {t t' : Nat} {vx vy v : Value} {w w' : World} (ho : o.op = .call { callee := .builtin .append, args := #[x, y], argTypes := #[t, t'] }) (hx : vev l x = vx) (hy : vev l y = vy) (h : (Builtin.append_ #[t, t'] o.type #[vx, vy]).run P w = .ok v w') :
    (execOp (act l).eval o).run P w = .ok (.value v) w' := by
  simp [execOp, ho, resolve, invoke, act_eval, hx, hy, builtin, h]
theorem exec_copy {l : List Value} {o : Oper} {x y : Operand} {t t' : Nat} {vx vy v : Value} {w w' : World} (ho : o.op = .call { callee := .builtin .copy, args := #[x, y], argTypes := #[t, t'] }) (hx : vev l x = vx) (hy : vev l y = vy) (h : (Builtin.copy_ #[t, t'] o.type #[vx, vy]).run P w = .ok v w') :
    (execOp (act l).eval o).run P w = .ok (.value v) w' := by
  simp [execOp, ho, resolve, invoke, act_eval, hx, hy, builtin, h]
theorem exec_fn {l : List Value} {o : Oper} {x y : Operand} {g : Nat} {tt : Array TypeId} {vx vy v : Value} {w w' : World} (ho : o.op = .call { callee := .value (.func g), args := #[x, y], argTypes := tt }) (hx : vev l x = vx) (hy : vev l y = vy) (h : (callFunc g #[vx, vy]).run P w = .ok (.value v) w') :
    (execOp (act l).eval o).run P w = .ok (.value v) w' := by
  have hx : (act l).eval x = vx := by rw [act_eval, hx]
  have hy : (act l).eval y = vy := by rw [act_eval, hy]
  have hg : (act l).eval (.func g) = .func (.func g) #[] #[] := rfl
  simp [execOp, ho, resolve, hx, hy, hg, Deferred.ofValue, invoke, h]

theorem splice_grow {α : Type} (A Z R Y D : List α) (hz : Z.length = Y.length + D.length) : splice (splice (A ++ Z ++ R) A.length Y) (A.length + Y.length) D = A ++ Y ++ D ++ R := by
  have h1 : splice (A ++ Z ++ R) A.length Y = A ++ Y ++ (Z.drop Y.length ++ R) := by
    unfold splice
    have e1 : (A ++ Z ++ R).take A.length = A := by rw [List.append_assoc, List.take_left]
    have e2 : (A ++ Z ++ R).drop (A.length + Y.length) = Z.drop Y.length ++ R := by
      rw [List.append_assoc, List.drop_append, List.drop_eq_nil_of_le (by omega), List.nil_append, Nat.add_sub_cancel_left, List.drop_append_of_le_length (by omega)]
    rw [e1, e2]
  rw [h1]
  have h2 : A.length + Y.length = (A ++ Y).length := by simp
  rw [h2, ← List.append_assoc (A ++ Y)]
  exact splice_exact (A ++ Y) _ R D (by simp [hz])
theorem splice_room {α : Type} (A D R Y : List α) (hr : Y.length ≤ R.length) : splice (splice (A ++ D ++ R) (A.length + Y.length) D) A.length Y = A ++ Y ++ D ++ R.drop Y.length := by
  have e0 : (A ++ D ++ R).take (A.length + Y.length) = A ++ (D ++ R).take Y.length := by
    rw [List.append_assoc, List.take_append, List.take_of_length_le (by omega), Nat.add_sub_cancel_left]
  have e1 : (A ++ D ++ R).drop (A.length + Y.length + D.length) = R.drop Y.length := by
    rw [List.append_assoc, List.drop_append, List.drop_eq_nil_of_le (by omega), List.nil_append, List.drop_append, List.drop_eq_nil_of_le (by omega), List.nil_append]
    congr 1
    omega
  have h1 : splice (A ++ D ++ R) (A.length + Y.length) D = A ++ (D ++ R).take Y.length ++ (D ++ R.drop Y.length) := by
    unfold splice
    rw [e0, e1]
    simp [List.append_assoc]
  rw [h1, splice_exact A _ _ Y (by simp; omega)]
  simp [List.append_assoc]
end Go.Ab
