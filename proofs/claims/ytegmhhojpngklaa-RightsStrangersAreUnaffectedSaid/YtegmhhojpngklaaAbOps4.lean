/- Binary and unary operations, choices. -/
import Derived.Test.YtegmhhojpngklaaAbOps3
namespace Go.Ab
open Go.RowKit
variable {C : Ctx} {P : Program}

theorem elt_some {t e : Nat} (h : elt C t = some e) : C.te t = some (.sl e) := by
  unfold elt at h
  cases ht : C.te t with
  | none => simp [ht] at h
  | some ty => cases ty <;> simp [ht] at h; subst h; rfl

def isNilV : Value → Bool
  | .slice none _ _ => true
  | _ => false
theorem run_equalIn_nil {t e : Nat} (hu : P.underlying t = some (.slice e)) (d : Nat) (a : Option Addr) (n c : Nat) (w : World) :
    (Op.equalIn (d + 1) t (.slice a n c) (.slice none 0 0)).run P w = .ok (isNilV (.slice a n c)) w := by
  cases a with
  | none => simp [Op.equalIn, run_und hu, isNilV]
  | some a => simp [Op.equalIn, run_und hu, isNilV]
theorem run_eq_nil (ok : CtxOk P C) {t e : Nat} (ht : C.te t = some (.sl e)) (a : Option Addr) (n c : Nat) (w : World) :
    (Op.equal t (.slice a n c) (.slice none 0 0)).run P w = .ok (isNilV (.slice a n c)) w :=
  run_equalIn_nil (ok.und t _ ht) 9999 a n c w
theorem run_eq_bool (ok : CtxOk P C) {t : Nat} (ht : C.te t = some .bool) (a b : Bool) (w : World) :
    (Op.equal t (.bool a) (.bool b)).run P w = .ok (a == b) w :=
  run_equalIn_bool' w 9999 t a b (ok.und t _ ht)
theorem slice_guard {op : BinOp} {t : Nat} {x y : Operand} {a b : Option Addr} {n c n' c' : Nat} (w : World) : (eqGuard op t x y (.slice a n c) (.slice b n' c')).run P w = .ok () w := by
  unfold eqGuard; cases op <;> simp

/-- what an own slice holds is told by its block -/
theorem BlkOk.arr {H : View} {ι : Own} {sto : Sto} {w : World} {id e : Nat} {z : Bool} {xs : List U} (h : BlkOk C H ι sto w id) (hs : sto id = some (.arr e z xs)) :
    ∃ cs, w.ownsRow 0 e (C.sz e) (ι id) xs.length cs ∧ (∀ i, i < xs.length → Rep C H e (chunk cs (C.sz e) i) (U.nth xs i)) ∧
      (ι id = .slice none 0 0 ↔ z = true ∧ xs = []) ∧ (∃ ty, C.te e = some ty) := by
  unfold BlkOk at h; rw [hs] at h; exact h
theorem BlkOk.box {H : View} {ι : Own} {sto : Sto} {w : World} {id t : Nat} {vs : List AV} (h : BlkOk C H ι sto w id) (hs : sto id = some (.box t vs)) :
    ∃ g cur, ι id = .pointer (some ⟨g, 0, none⟩) ∧ w.heap[g]? = some (.cells cur t (0, 0)) ∧ (∃ ty, C.te t = some ty) ∧ RepVs C H ι sto (boxTs C t) vs cur.toList := by
  unfold BlkOk at h; rw [hs] at h; exact h
theorem own_slice {w : World} {e size n : Nat} {v : Value} {xs : List Value} (h : w.ownsRow 0 e size v n xs) : (v = .slice none 0 0 ∧ n = 0) ∨ ∃ g cap, v = .slice (some ⟨g, 0, none⟩) n cap := by
  rcases h.2 with h | ⟨g, cap, cur, h1, _⟩
  · exact .inl h
  · exact .inr ⟨g, cap, h1⟩

theorem nilOf_sound {H : View} {ι : Own} {st : St} {w : World} {x : AV} {v : Value} {z : Bool} (hb : ∀ id, BlkOk C H ι st.sto w id) (h : nilOf st x = some z) (r : RepA C H ι st.sto x v) :
    ∃ a n c, v = .slice a n c ∧ (match a with | none => true | some _ => false) = z := by
  unfold nilOf at h
  split at h
  · cases h; exact ⟨none, 0, 0, r, rfl⟩
  · cases h
    rename_i u
    rcases r with ⟨h1, h2, h3⟩ | ⟨a, cap, cs, h1, h2, _⟩
    · exact ⟨_, _, _, h3, h2.symm⟩
    · exact ⟨_, _, _, h1, h2.symm⟩
  · rename_i id
    split at h
    · rename_i e z' xs hs
      cases h
      obtain ⟨cs, h1, h2, h3, _⟩ := (hb id).arr hs
      have r' : RepOw C ι st.sto id none v := r
      unfold RepOw at r'
      rw [hs] at r'
      simp only at r'
      subst r'
      rcases own_slice h1 with ⟨h4, h5⟩ | ⟨g, cap, h4⟩
      · obtain ⟨h6, h7⟩ := h3.1 h4
        exact ⟨none, 0, 0, h4, by simp [h6, h7]⟩
      · refine ⟨_, _, _, h4, ?_⟩
        have : ¬ (z' = true ∧ xs = []) := fun h => by rw [h3.2 h] at h4; cases h4
        cases z' <;> cases xs <;> simp_all
    · cases h
  · cases h

theorem isEql_some {op : BinOp} {e : Bool} (h : isEql op = some e) : (op = .eql ∧ e = true) ∨ (op = .neq ∧ e = false) := by
  cases op <;> simp [isEql] at h <;> simp [h]

theorem RepA.st' {H : View} {ι : Own} {sto : Sto} {t : Nat} {u : U} {v : Value} (r : RepA C H ι sto (.st t u) v) : ∃ cs fs, C.te t = some (.st fs) ∧ v = .agg cs.toArray ∧ Rep C H t cs u := r

theorem abin_sound (ok : CtxOk P C) {H : View} {ι : Own} {st : St} {w : World} (hb : ∀ id, BlkOk C H ι st.sto w id) {tm : Nat → Value} {op : BinOp} {t : Nat} {x y : AV} {vx vy : Value} {ox oy : Operand} {v : AV}
    (h : abin C st op t x y = some (true, v)) (rx : RepS C H ι st.sto tm x vx) (ry : RepS C H ι st.sto tm y vy) :
    ∃ r, ((do eqGuard op t ox oy vx vy; binOp op t vx vy : Sem Value)).run P w = .ok r w ∧ RepA C H ι st.sto v r := by
  unfold abin at h
  split at h
  · -- numbers
    rename_i k a k' b
    obtain rfl : vx = .int k a := rx
    obtain rfl : vy = .int k' b := ry
    rw [Sem.run_bind, run_guard_int, Result.andThen_ok]
    cases hs : isShift op with
    | true => rw [hs] at h; exact ashift_sound t w h
    | false =>
      rw [hs] at h
      simp only [cond_false] at h
      by_cases hk : k = k'
      · subst hk
        simp at h
        exact aint_sound t w h
      · simp [hk] at h
  · rename_i a b
    obtain rfl : vx = .string (str a) := rx
    obtain rfl : vy = .string (str b) := ry
    rw [Sem.run_bind, str_guard, Result.andThen_ok]
    exact astr_sound t w h
  · rename_i a b
    obtain rfl : vx = .bool a := rx
    obtain rfl : vy = .bool b := ry
    rw [Sem.run_bind, bool_guard, Result.andThen_ok]
    cases he : isEql op with
    | none => simp [he] at h
    | some e =>
      cases ht : C.te t with
      | none => simp [he, ht] at h
      | some ty =>
        cases ty with
        | bool =>
          rw [he, ht] at h
          simp only [Option.some.injEq, Prod.mk.injEq, true_and] at h
          subst h
          have hq := run_eq_bool ok ht a b w
          rcases isEql_some he with ⟨rfl, rfl⟩ | ⟨rfl, rfl⟩
          · simp only [binOp, Sem.run_bind, hq]
            exact ⟨_, rfl, rfl⟩
          · simp only [binOp, Sem.run_bind, hq]
            exact ⟨_, rfl, rfl⟩
        | _ => simp [he, ht] at h
  · rename_i t1 u t2 u'
    cases he : isEql op with
    | none => simp [he] at h
    | some e =>
      rw [he] at h
      simp only [nbeq] at h
      by_cases hc : (decide (t = t1) && decide (t = t2) && cmpT C 20 t) = true
      · rw [hc] at h
        simp only [Bool.and_eq_true, decide_eq_true_eq] at hc
        obtain ⟨⟨rfl, rfl⟩, hc⟩ := hc
        simp only [cond_true, Option.some.injEq, Prod.mk.injEq, true_and] at h
        subst h
        obtain ⟨cs, fs, h1, rfl, h3⟩ := rx
        obtain ⟨cs', fs', h1', rfl, h3'⟩ := ry
        obtain ⟨f1, f2, f3, f4, f5⟩ := ok.fds h1
        rw [Sem.run_bind, run_eqGuard_agg w op t ox oy _ _ f5, Result.andThen_ok]
        have := equal_sound ok 20 10000 (by omega) t (.agg cs.toArray) (.agg cs'.toArray) cs cs' u u' H H hc h3 h3' (by simp [IsVal, h1]) (by simp [IsVal, h1]) w
        rcases isEql_some he with ⟨rfl, rfl⟩ | ⟨rfl, rfl⟩
        · rw [run_eql_struct, this]
          exact ⟨_, rfl, rfl⟩
        · rw [run_neq_struct, this]
          exact ⟨_, rfl, rfl⟩
      · simp only [Bool.not_eq_true] at hc
        rw [hc] at h
        simp at h
  · obtain rfl : vy = .slice none 0 0 := ry
    cases he : isEql op with
    | none => simp [he] at h
    | some e =>
      cases hn : nilOf st x with
      | none => simp [he, hn] at h
      | some z =>
        cases ht : elt C t with
        | none => simp [he, hn, ht] at h
        | some et =>
          rw [he, hn, ht] at h
          simp only [Option.some.injEq, Prod.mk.injEq, true_and] at h
          subst h
          have rx' : RepA C H ι st.sto x vx := by
            cases hcv : isCv x with
            | true => cases x <;> simp [isCv] at hcv; simp [nilOf] at hn
            | false => rwa [RepS.eq hcv] at rx
          obtain ⟨a, n, c, rfl, hz⟩ := nilOf_sound hb hn rx'
          rw [Sem.run_bind, slice_guard, Result.andThen_ok]
          have hq := run_eq_nil ok (elt_some ht) a n c w
          have hz' : isNilV (.slice a n c) = z := by cases a <;> simpa [isNilV] using hz
          rw [hz'] at hq
          rcases isEql_some he with ⟨rfl, rfl⟩ | ⟨rfl, rfl⟩
          · simp only [binOp, Sem.run_bind, hq]
            exact ⟨_, rfl, rfl⟩
          · simp only [binOp, Sem.run_bind, hq]
            exact ⟨_, rfl, rfl⟩
  · cases h

end Go.Ab
