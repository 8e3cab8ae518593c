/- Arithmetic, comparisons, choices. -/
import Derived.Test.YtegmhhojpngklaaAbOps
import GoSem.Dispatch
namespace Go.Ab
open Go.RowKit
variable {C : Ctx} {P : Program}

theorem constAV_rep {H : View} {ι : Own} {sto : Sto} (v : Value) : RepA C H ι sto (constAV v) v := by
  unfold constAV
  split
  · rfl
  · rfl
  · rename_i s; show _ = _; simp [str]
  · rfl
  · trivial
theorem Sim.eval {f : Fr} {ι : Own} {st : St} {a : Act} {w : World} (s : Sim C f ι st a w) (x : Operand) : RepS C (view f ι st.sto w) ι st.sto (tmOf a) (st.eval x) (a.eval x) := by
  cases x with
  | tmp t => exact s.env t
  | const v => exact .of (constAV_rep v)
  | global g => trivial
  | func g => exact ⟨[], rfl, trivial⟩

theorem str_inj {x y : List UInt8} : str x = str y ↔ x = y := by
  constructor
  · intro h
    have := congrArg (fun b : ByteArray => b.data.toList) h
    simpa [str] using this
  · rintro rfl; rfl
theorem loop_toList (s : ByteArray) : ∀ (n i : Nat) (acc : List UInt8), s.size - i = n → ByteArray.toList.loop s i acc = acc.reverse ++ s.data.toList.drop i
  | 0, i, acc, h => by
    unfold ByteArray.toList.loop
    have : ¬ i < s.size := by omega
    have h2 : s.data.toList.length ≤ i := by simp [Array.length_toList]; show s.size ≤ i; omega
    simp [this, List.drop_eq_nil_of_le h2]
  | n + 1, i, acc, h => by
    unfold ByteArray.toList.loop
    have hlt : i < s.size := by omega
    have h2 : i < s.data.toList.length := by simp [Array.length_toList]; exact hlt
    rw [if_pos hlt, loop_toList s n (i + 1) _ (by omega), List.drop_eq_getElem_cons h2]
    simp
    rw [show s.get! i = s.data[i]! from rfl]
    simp [hlt]
theorem toList_str (x : List UInt8) : (str x).toList = x := by
  have := loop_toList (str x) (str x).size 0 [] (by simp)
  simpa [ByteArray.toList, str] using this
theorem size_str (x : List UInt8) : (str x).size = x.length := by simp [str, ByteArray.size]

theorem run_guard_int {op : BinOp} {t : Nat} {x y : Operand} {k k' : IntKind} {m n : Int} (w : World) : (eqGuard op t x y (.int k m) (.int k' n)).run P w = .ok () w := by
  unfold eqGuard; cases op <;> simp
theorem aint_sound {op : BinOp} {k : IntKind} {m n : Int} {v : AV} (t : Nat) (w : World) (h : aint op k m n = some (true, v)) {H : View} {ι : Own} {sto : Sto} :
    ∃ r, (binOp op t (.int k m) (.int k n)).run P w = .ok r w ∧ RepA C H ι sto v r := by
  cases op <;> simp [aint] at h <;> simp only [binOp, ne_eq, not_true_eq_false, if_false]
  case add => subst h; exact ⟨_, rfl, rfl⟩
  case sub => subst h; exact ⟨_, rfl, rfl⟩
  case mul => subst h; exact ⟨_, rfl, rfl⟩
  case quo => obtain ⟨h1, rfl⟩ := h; exact ⟨_, by simp [Op.intDiv, h1], rfl⟩
  case rem => obtain ⟨h1, rfl⟩ := h; exact ⟨_, by simp [Op.intDiv, h1], rfl⟩
  case and => subst h; exact ⟨_, rfl, rfl⟩
  case or => subst h; exact ⟨_, rfl, rfl⟩
  case xor => subst h; exact ⟨_, rfl, rfl⟩
  case andNot => subst h; exact ⟨_, rfl, rfl⟩
  case eql => subst h; exact ⟨_, rfl, rfl⟩
  case neq => subst h; exact ⟨_, rfl, rfl⟩
  case lss => subst h; exact ⟨_, rfl, rfl⟩
  case leq => subst h; exact ⟨_, rfl, rfl⟩
  case gtr => subst h; exact ⟨_, rfl, rfl⟩
  case geq => subst h; exact ⟨_, rfl, rfl⟩
theorem ashift_sound {op : BinOp} {k k' : IntKind} {m n : Int} {v : AV} (t : Nat) (w : World) (h : ashift op k m n = some (true, v)) {H : View} {ι : Own} {sto : Sto} :
    ∃ r, (binOp op t (.int k m) (.int k' n)).run P w = .ok r w ∧ RepA C H ι sto v r := by
  cases op <;> simp [ashift] at h <;> simp only [binOp]
  all_goals
    obtain ⟨h1, rfl⟩ := h
    refine ⟨_, ?_, rfl⟩
    have : ¬ n < 0 := by omega
    simp [Op.shift, this]
theorem astr_sound {op : BinOp} {x y : List UInt8} {v : AV} (t : Nat) (w : World) (h : astr op x y = some (true, v)) {H : View} {ι : Own} {sto : Sto} :
    ∃ r, (binOp op t (.string (str x)) (.string (str y))).run P w = .ok r w ∧ RepA C H ι sto v r := by
  have e1 : ((str x).toList == (str y).toList) = decide (x = y) := by rw [toList_str, toList_str]; by_cases h : x = y <;> simp [h]
  cases op <;> simp [astr] at h <;> simp only [binOp, Op.stringOp, e1, toList_str, size_str]
  case add =>
    obtain ⟨h1, rfl⟩ := h
    refine ⟨.string (str x ++ str y), ?_, ?_⟩
    · have : ¬ (((x.length + y.length : Nat) : Int) > IntKind.i64.max) := by
        have e : IntKind.i64.max = 9223372036854775807 := by decide
        rw [e]; omega
      rw [if_neg this]; rfl
    · show Value.string _ = _
      congr 1
  all_goals
    subst h
    refine ⟨_, rfl, ?_⟩
    show Value.bool _ = Value.bool _
    congr 1
    try (by_cases h : x = y <;> simp [h])

theorem bool_guard {op : BinOp} {t : Nat} {x y : Operand} {b c : Bool} (w : World) : (eqGuard op t x y (.bool b) (.bool c)).run P w = .ok () w := by
  unfold eqGuard; cases op <;> simp
theorem str_guard {op : BinOp} {t : Nat} {x y : Operand} {b c : ByteArray} (w : World) : (eqGuard op t x y (.string b) (.string c)).run P w = .ok () w := by
  unfold eqGuard; cases op <;> simp

end Go.Ab
