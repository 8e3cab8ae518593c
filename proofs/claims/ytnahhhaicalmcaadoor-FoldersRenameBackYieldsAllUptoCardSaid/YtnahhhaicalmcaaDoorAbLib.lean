/- Functions of Go's library that are given: what they yield, and how a contract in the model's words serves the evaluator. -/
import Derived.Test.YtnahhhaicalmcaaDoorAbTab
import Derived.Lib.Bytealg
set_option linter.unusedVariables false
set_option linter.unusedSimpArgs false
namespace Go.Ab
open Go.RowKit
variable {P : Program} {C : Ctx}

/-- slices.Clip -/
def clipU : List U → Option U
  | [s] => some s
  | _ => none
/-- strings.Count, of one byte -/
def countU : List U → Option U
  | [s, p] => match p.toS with
    | [c] => some (.I (Lib.countByte s.toS c : Nat))
    | _ => none
  | _ => none
/-- strings.Index, of one byte -/
def indexU : List U → Option U
  | [s, p] => match p.toS with
    | [c] => some (.I (Lib.indexByte s.toS c))
    | _ => none
  | _ => none
theorem val_str {V : View} {t : Nat} {u : U} {v : Value} {cs : List Value} (ht : C.te t = some .str) (hv : IsVal C t v cs) (hr : Rep C V t cs u) : v = .string (str u.toS) := by
  unfold IsVal at hv
  rw [ht] at hv
  cases hr with
  | str h => simpa using hv.symm
  | int h => rw [h] at ht; cases ht
  | bool h => rw [h] at ht; cases ht
  | nil h => rw [h] at ht; cases ht
  | sl cs h => rw [h] at ht; cases ht
  | st cs h => rw [h] at ht; cases ht
  | ptr cs h => rw [h] at ht; cases ht
  | fn ad cs h => rw [h] at ht; cases ht
theorem val_int {V : View} {t : Nat} {k : IntKind} {u : U} {v : Value} {cs : List Value} (ht : C.te t = some (.int k)) (hv : IsVal C t v cs) (hr : Rep C V t cs u) : v = .int k u.toI := by
  unfold IsVal at hv
  rw [ht] at hv
  cases hr with
  | int h => rw [h] at ht; cases ht; simpa using hv.symm
  | str h => rw [h] at ht; cases ht
  | bool h => rw [h] at ht; cases ht
  | nil h => rw [h] at ht; cases ht
  | sl cs h => rw [h] at ht; cases ht
  | st cs h => rw [h] at ht; cases ht
  | ptr cs h => rw [h] at ht; cases ht
  | fn ad cs h => rw [h] at ht; cases ht
/-- a call that reads its arguments, and changes nothing -/
theorem spec_reads {g : Nat} {fi : Fn} {us : List U} {r : U} {t : Nat} (hfi : C.fn g = some fi) (hown : fi.own = []) (hcaps : fi.caps = []) (hout : fi.out = []) (hrt : fi.rts = [t]) (eg : ∀ args w, (callFunc g args).run P w = .ok (.enter g args) w)
    (h : ∀ (f : Fr) (vs : List Value), FrOk f → ArgsL C f [] fi.params us vs → Calls P g vs.toArray f.w0 fun e w' => ∃ v cs, e = .returned v ∧ w' = f.w0 ∧ IsVal C t v cs ∧ ∀ H, Rep C H t cs r) : Spec P C g us r := by
  refine .inl ⟨fi, hfi, fun f vs hf hkp hargs => .inl ⟨eg _ _, ?_⟩⟩
  obtain ⟨us1, us2, vs1, vs2, e1, e2, hA, hC⟩ := hargs
  rw [hcaps] at hC
  match us2, vs2, hC with
  | [], [], _ =>
    rw [List.append_nil] at e1 e2
    subst e1; subst e2
    rw [hown] at hA
    refine (h f _ hf hA).mono ?_
    rintro e w' ⟨v, cs, rfl, rfl, hv, hr⟩
    refine ⟨⟨rfl, rfl, rfl, Nat.le_refl _, Nat.le_refl _, fun _ _ _ => rfl⟩, fun _ => False, [v], ?_, rfl⟩
    rw [hrt, hout]
    exact ⟨⟨cs, hv, hr _⟩, trivial⟩
end Go.Ab
