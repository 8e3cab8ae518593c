/- Plain steps on values: for what is laid down by hand. -/
import Derived.Test.YtnahhhaicalmcaaDoorAbTab
import Derived.StillTail
set_option linter.unusedVariables false
set_option linter.unusedSimpArgs false
namespace Go.Ab
open Go.RowKit
variable {C : Ctx} {P : Program}

def vnth : List Value → Nat → Value
  | [], _ => undef
  | x :: _, 0 => x
  | _ :: xs, n + 1 => vnth xs n
def vset : List Value → Nat → Value → List Value
  | [], _, _ => []
  | _ :: l, 0, v => v :: l
  | a :: l, n + 1, v => a :: vset l n v
def vput (l : List Value) (d : Option Nat) (v : Value) : List Value := match d with | some d => vset l d v | none => l
def vev (l : List Value) : Operand → Value
  | .tmp t => vnth l t
  | .const v => v
  | .global g => .pointer (some ⟨g, 0, none⟩)
  | .func f => .func (.func f) #[] #[]
def vint : Value → Option (IntKind × Int) | .int k n => some (k, n) | _ => none
def vbd (l : List Value) : Option Operand → Option (Option Int)
  | none => some none
  | some o => match vev l o with | .int _ n => some (some n) | _ => none
/-- a plain step: whether it is safe, and what it yields -/
def vop (C : Ctx) (l : List Value) (o : Op) : Option (Bool × Value) :=
  match o with
  | .move x | .assign x => some (true, vev l x)
  | .unOp .not _ x => match vev l x with | .bool b => some (true, .bool !b) | _ => none
  | .binOp op _ x y _ => match vev l x, vev l y with
    | .int k a, .int k' b => bif decide (k = k') then (match op with
      | .add => some (decide (k.wrap (a + b) = a + b), .int k (a + b))
      | .sub => some (decide (k.wrap (a - b) = a - b), .int k (a - b))
      | .gtr => some (true, .bool (decide (b < a)))
      | .lss => some (true, .bool (decide (a < b)))
      | .eql => some (true, .bool (decide (a = b)))
      | _ => none) else none
    | _, _ => none
  | .call c => match c.callee, c.args.toList, c.argTypes.toList with
    | .builtin .len, [x], [t] => match vev l x, C.te t with | .slice _ n _, some (.sl _) => some (true, .int .i64 n) | _, _ => none
    | .builtin .cap, [x], [t] => match vev l x, C.te t with | .slice _ _ n, some (.sl _) => some (true, .int .i64 n) | _, _ => none
    | _, _, _ => none
  | .slice t x lo hi none => match vev l x, C.te t, vbd l lo, vbd l hi with
    | .slice (some a) n c, some (.sl e), some lo, some hi =>
      some (decide (0 ≤ lo.getD 0) && decide (lo.getD 0 ≤ hi.getD n) && decide (hi.getD n ≤ c), .slice (some (bif Nat.beq c (lo.getD 0).toNat then a else a.add ((lo.getD 0).toNat * C.sz e))) ((hi.getD n).toNat - (lo.getD 0).toNat) (c - (lo.getD 0).toNat))
    | _, _, _, _ => none
  | _ => none
/-- plain steps one behind the other -/
def vlist (C : Ctx) : List Oper → List Value → Option (Bool × List Value)
  | [], l => some (true, l)
  | o :: os, l => match o.guard, vop C l o.op with
    | none, some (s, v) => match vlist C os (vput l o.dst v) with
      | some (s', l') => some (s && s', l')
      | none => none
    | _, _ => none
def act (l : List Value) : Act := ⟨l.toArray, []⟩

theorem vnth_get : ∀ (l : List Value) (t : Nat), vnth l t = l.toArray.getD t undef
  | [], t => by simp [vnth]
  | x :: l, 0 => by simp [vnth]
  | x :: l, t + 1 => by
    have := vnth_get l t
    simp only [Array.getD_eq_getD_getElem?, List.getElem?_toArray] at this
    simpa [vnth, Array.getD_eq_getD_getElem?] using this
theorem vset_set : ∀ (l : List Value) (d : Nat) (v : Value), (vset l d v).toArray = l.toArray.setIfInBounds d v
  | [], d, v => by simp [vset]
  | a :: l, 0, v => by simp [vset]
  | a :: l, d + 1, v => by
    have := congrArg Array.toList (vset_set l d v)
    apply Array.ext'
    simpa [vset, Array.toList_setIfInBounds] using this
theorem act_eval (l : List Value) (x : Operand) : (act l).eval x = vev l x := by
  cases x with
  | tmp t => exact (vnth_get l t).symm
  | _ => rfl
theorem act_put (l : List Value) (d : Option Nat) (v : Value) : (act l).put d v = act (vput l d v) := by
  cases d with
  | none => rfl
  | some d => simp [act, Act.put, vput, vset_set]
theorem vbd_some {l : List Value} {o : Option Operand} {b : Option Int} (h : vbd l o = some b) : (b = none ∧ o.map (act l).eval = none) ∨ ∃ k n, b = some n ∧ o.map (act l).eval = some (.int k n) := by
  cases o with
  | none => simp [vbd] at h; exact .inl ⟨h.symm, rfl⟩
  | some o =>
    simp only [vbd] at h
    split at h
    · rename_i k n he
      cases h
      exact .inr ⟨k, n, rfl, by simp [act_eval, he]⟩
    · cases h
theorem run_bounds2 {isS : Bool} {len cap : Nat} {l h : Option Int} {vl vh : Option Value} (hl : (l = none ∧ vl = none) ∨ ∃ k n, l = some n ∧ vl = some (.int k n)) (hh : (h = none ∧ vh = none) ∨ ∃ k n, h = some n ∧ vh = some (.int k n))
    (h0 : 0 ≤ l.getD 0) (h1 : l.getD 0 ≤ h.getD len) (h2 : h.getD len ≤ cap) (w : World) :
    (Instr.sliceBounds isS len cap vl vh none).run P w = .ok ((l.getD 0).toNat, (h.getD len).toNat, cap) w := by
  unfold Instr.sliceBounds
  rcases hh with ⟨rfl, rfl⟩ | ⟨k, n, rfl, rfl⟩
  · simp only [Option.getD_none] at h1 h2 ⊢
    rcases hl with ⟨rfl, rfl⟩ | ⟨k, n, rfl, rfl⟩
    · simp
    · simp only [Option.getD_some] at h0 h1 ⊢
      simp only [Sem.run_bind, Sem.run_pure, Result.andThen_ok, run_bound h0 h1]
      simp
  · simp only [Option.getD_some] at h1 h2 ⊢
    rcases hl with ⟨rfl, rfl⟩ | ⟨k', n', rfl, rfl⟩
    · simp only [Option.getD_none] at h1
      simp only [Sem.run_bind, Sem.run_pure, Result.andThen_ok, run_bound (show 0 ≤ n by omega) h2]
      simp
    · simp only [Option.getD_some] at h0 h1 ⊢
      simp only [Sem.run_bind, Sem.run_pure, Result.andThen_ok, run_bound (show 0 ≤ n by omega) h2, run_bound h0 (show n' ≤ n.toNat by omega)]

theorem vop_sound (ok : CtxOk P C) {l : List Value} {o : Oper} {v : Value} (h : vop C l o.op = some (true, v)) (w : World) : (execOp (act l).eval o).run P w = .ok (.value v) w := by
  unfold vop at h
  split at h
  · rename_i x ho; cases h; simp [execOp, ho, act_eval]
  · rename_i x ho; cases h; simp [execOp, ho, act_eval]
  · rename_i t x ho
    split at h
    · rename_i b hb
      cases h
      simp [execOp, ho, act_eval, hb, Op.unary]
    · cases h
  · rename_i op t x y yt ho
    split at h
    · rename_i k a k' b hx hy
      have hk := (cond_some h).1
      replace h := (cond_some h).2
      simp only [decide_eq_true_eq] at hk
      subst hk
      split at h
      · simp only [Option.some.injEq, Prod.mk.injEq, decide_eq_true_eq] at h
        obtain ⟨h1, rfl⟩ := h
        simp [execOp, ho, act_eval, hx, hy, eqGuard, binOp, Op.intArith, h1]
      · simp only [Option.some.injEq, Prod.mk.injEq, decide_eq_true_eq] at h
        obtain ⟨h1, rfl⟩ := h
        simp [execOp, ho, act_eval, hx, hy, eqGuard, binOp, Op.intArith, h1]
      · cases h
        simp [execOp, ho, act_eval, hx, hy, eqGuard, binOp, Op.intCmp]
      · cases h
        simp [execOp, ho, act_eval, hx, hy, eqGuard, binOp, Op.intCmp]
      · cases h
        simp only [execOp, ho, act_eval, hx, hy, eqGuard, binOp, Op.intCmp, Sem.run_bind, Sem.run_pure, Result.andThen_ok]
        congr 3
        by_cases hab : a = b <;> simp [hab]
      · cases h
    · cases h
  · rename_i c ho
    split at h
    · rename_i x t hcal hargs hts
      have e1 : c.args = #[x] := by apply Array.ext'; simpa using hargs
      have e2 : c.argTypes = #[t] := by apply Array.ext'; simpa using hts
      split at h
      · rename_i b n cp e hx ht
        cases h
        have hu := ok.und t _ ht
        simp only at hu
        simp [execOp, ho, resolve, hcal, invoke, builtin, e1, e2, act_eval, hx, Builtin.len_, Builtin.lenOf, run_und hu, goInt]
      · cases h
    · rename_i x t hcal hargs hts
      have e1 : c.args = #[x] := by apply Array.ext'; simpa using hargs
      have e2 : c.argTypes = #[t] := by apply Array.ext'; simpa using hts
      split at h
      · rename_i b n cp e hx ht
        cases h
        have hu := ok.und t _ ht
        simp only at hu
        simp [execOp, ho, resolve, hcal, invoke, builtin, e1, e2, act_eval, hx, Builtin.cap_, run_und hu, goInt]
      · cases h
    · cases h
  · rename_i t x lo hi ho
    split at h
    · rename_i a n c e lo' hi' hx ht hlo hhi
      simp only [Option.some.injEq, Prod.mk.injEq, Bool.and_eq_true, decide_eq_true_eq] at h
      obtain ⟨⟨⟨h0, h1⟩, h2⟩, rfl⟩ := h
      have hu := ok.und t _ ht
      simp only at hu
      obtain ⟨ty, hty, hnp⟩ := ok.elem t e ht
      have hb := run_bounds2 (P := P) (isS := true) (vbd_some hlo) (vbd_some hhi) h0 h1 h2 w
      simp only [execOp, ho, Instr.sliceAt, Sem.run_bind, run_und hu, Result.andThen_ok, Instr.slice, act_eval, hx, Option.map_none]
      rw [hb]
      simp only [Result.andThen_ok, ok.sizeOf hty hnp, Sem.run_pure]
      congr 3
      rw [nbeq]
      by_cases hc : c = (lo'.getD 0).toNat <;> simp [hc]
    · cases h
  · cases h

theorem vlist_sound (ok : CtxOk P C) {ops : Array Oper} {rest : List Oper} {Q : Exit → Act → World → Prop} {w : World} : ∀ {os : List Oper} {l l' : List Value}, vlist C os l = some (true, l') → wpList P ops Q rest (act l') w → wpList P ops Q (os ++ rest) (act l) w
  | [], l, l', h, hn => by simp only [vlist] at h; cases h; exact hn
  | o :: os, l, l', h, hn => by
    simp only [vlist] at h
    cases hg : o.guard with
    | some p => rw [hg] at h; cases h
    | none =>
      cases hv : vop C l o.op with
      | none => rw [hg, hv] at h; cases h
      | some p =>
        obtain ⟨s, v⟩ := p
        rw [hg, hv] at h
        simp only at h
        cases hr : vlist C os (vput l o.dst v) with
        | none => rw [hr] at h; cases h
        | some q =>
          obtain ⟨s', l2⟩ := q
          rw [hr] at h
          simp only [Option.some.injEq, Prod.mk.injEq, Bool.and_eq_true] at h
          obtain ⟨⟨rfl, rfl⟩, rfl⟩ := h
          rw [List.cons_append]
          unfold wpList
          have hw : Region.wanted o (yielded ops (act l).tmps) = true := by simp [Region.wanted, hg]
          rw [if_pos hw]
          refine .inl (wp_value (vop_sound ok hv w) ?_)
          rw [act_put]
          exact vlist_sound ok hr hn
theorem vlist_still (ok : CtxOk P C) {ops : Array Oper} {Q : Act → Prop} {w : World} : ∀ {os : List Oper} {l l' : List Value}, vlist C os l = some (true, l') → Q (act l') → wpStill P ops w Q os (act l)
  | [], l, l', h, hn => by simp only [vlist] at h; cases h; exact hn
  | o :: os, l, l', h, hn => by
    simp only [vlist] at h
    cases hg : o.guard with
    | some p => rw [hg] at h; cases h
    | none =>
      cases hv : vop C l o.op with
      | none => rw [hg, hv] at h; cases h
      | some p =>
        obtain ⟨s, v⟩ := p
        rw [hg, hv] at h
        simp only at h
        cases hr : vlist C os (vput l o.dst v) with
        | none => rw [hr] at h; cases h
        | some q =>
          obtain ⟨s', l2⟩ := q
          rw [hr] at h
          simp only [Option.some.injEq, Prod.mk.injEq, Bool.and_eq_true] at h
          obtain ⟨⟨rfl, rfl⟩, rfl⟩ := h
          unfold wpStill
          have hw : Region.wanted o (yielded ops (act l).tmps) = true := by simp [Region.wanted, hg]
          rw [if_pos hw]
          unfold Oper.still
          rw [vop_sound ok hv w, Oper.stillUpon_value]
          rw [act_put]
          exact vlist_still ok hr hn
end Go.Ab
