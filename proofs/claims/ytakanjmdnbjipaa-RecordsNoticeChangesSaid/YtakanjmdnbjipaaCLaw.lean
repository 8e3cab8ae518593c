/- The rows of laws, out of what their functions yield. -/
import Derived.Test.YtakanjmdnbjipaaAbLaw
import Derived.Test.YtakanjmdnbjipaaCGr
import Derived.Test.YtakanjmdnbjipaaCPg
set_option linter.unusedVariables false
set_option linter.unusedSimpArgs false
namespace Go.Proofs.Ytakanjmdnbjipaa
open Go.Ab Go.ChangeShapes Go.WideShapes Go.ChangeAt Go.RowKit
set_option linter.unusedVariables false
set_option linter.unusedSimpArgs false

theorem own : ownKnob Try.prog.godebug = none := by kernel_rfl
theorem laidOut : laidOutB Try.prog = true := by kernel_rfl
theorem K_pok : PrimOk Try.prog K := fun g h us r hp hr => by
  have hm := assoc_mem (show assoc prs g = some h from hp)
  have hm := List.mem_singleton.1 hm
  cases hm
  exact Grow.spec hr
theorem K_lim : ∀ e n, (∃ ty, K.te e = some ty ∧ ∀ e', ty ≠ .ptr e') → n * Try.prog.bytesOf e ≤ reachBytes → n ≤ K.lim e := Tab.hlim (T := T) (by kernel_rfl)
theorem Is.range {α : Type} (f : α → U) (g : Nat → α) (b : Bool) (n : Nat) : Is f (U.ofL b ((List.range n).map fun i => f (g i))) ((List.range n).map g) := by
  have := Is.mk' f b ((List.range n).map g)
  rw [List.map_map] at this
  exact this
theorem cn_int {t : Nat} {k : IntKind} (h : K.te t = some (.int k)) (u : U) : cn K 20 t u = .I u.toI := by
  unfold cn; rw [h]
theorem cn_bool {t : Nat} (h : K.te t = some .bool) (u : U) : cn K 20 t u = .B u.toB := by
  unfold cn; rw [h]
theorem cn_str {t : Nat} (h : K.te t = some .str) (u : U) : cn K 20 t u = .S u.toS := by
  unfold cn; rw [h]
theorem wf_str {t : Nat} {u : U} (ht : K.te t = some .str) (h : Wf K t u) : u.toS.length ≤ 140737488351232 := by
  cases h with
  | str h hw => exact hw
  | int h => rw [h] at ht; cases ht
  | bool h => rw [h] at ht; cases ht
  | sl h => rw [h] at ht; cases ht
  | st h => rw [h] at ht; cases ht
theorem wf_int {t : Nat} {k : IntKind} {u : U} (ht : K.te t = some (.int k)) (h : Wf K t u) : (Lit.int k u.toI).wf = true := by
  cases h with
  | int h hw => rw [h] at ht; cases ht; exact hw
  | str h => rw [h] at ht; cases ht
  | bool h => rw [h] at ht; cases ht
  | sl h => rw [h] at ht; cases ht
  | st h => rw [h] at ht; cases ht
theorem wf_sl {t e : Nat} {u : U} (ht : K.te t = some (.sl e)) (h : Wf K t u) : (u.isNil = true → u.len = 0) ∧ u.len ≤ K.lim e ∧ ∀ i, i < u.len → Wf K e (u.get i) := by
  cases h with
  | sl h hn hl he => rw [h] at ht; cases ht; exact ⟨hn, hl, he⟩
  | int h => rw [h] at ht; cases ht
  | bool h => rw [h] at ht; cases ht
  | str h => rw [h] at ht; cases ht
  | st h => rw [h] at ht; cases ht
theorem wf_st {t : Nat} {fs : List Nat} {u : U} (ht : K.te t = some (.st fs)) (h : Wf K t u) : ∀ j, j < fs.length → Wf K (nthN fs j) (u.get j) := by
  cases h with
  | st h hf => rw [h] at ht; cases ht; exact hf
  | int h => rw [h] at ht; cases ht
  | bool h => rw [h] at ht; cases ht
  | str h => rw [h] at ht; cases ht
  | sl h => rw [h] at ht; cases ht

theorem cn_22 (u : U) : cn K 20 22 u = .ofL u.isNil ((List.range u.len).map fun i => .I (u.get i).toI) := by kernel_rfl
theorem wf_22 {u : U} (h : Wf K 22 u) : ∃ l : Bs, BI (cn K 20 22 u) l ∧ l.length ≤ 140737488355328 := by
  obtain ⟨h1, h2, h3⟩ := wf_sl (t := 22) (e := 5) (by kernel_rfl) h
  have hl : u.len ≤ 140737488355328 := h2
  have he : (List.range u.len).map (fun i => U.I (u.get i).toI) = ((List.range u.len).map fun i => UInt8.ofNat (u.get i).toI.toNat).map bU := by
    rw [List.map_map]
    apply List.map_congr_left
    intro i hi
    have hw := wf_int (t := 5) (k := .u8) (by kernel_rfl) (h3 i (List.mem_range.1 hi))
    simp [Lit.wf, IntKind.min, IntKind.max, IntKind.signed, IntKind.bits] at hw
    have h1 : 0 ≤ (u.get i).toI := by omega
    have h2 : (u.get i).toI < 256 := by omega
    show U.I (u.get i).toI = U.I (((UInt8.ofNat (u.get i).toI.toNat).toNat : Nat) : Int)
    simp
    omega
  refine ⟨(List.range u.len).map fun i => UInt8.ofNat (u.get i).toI.toNat, ?_, by simpa using hl⟩
  rw [cn_22, he]
  refine ⟨Is.mk' bU _ _, fun hn => ?_⟩
  have hn : u.isNil = true := hn
  rw [h1 hn]; rfl
theorem cn_3 (u : U) : cn K 20 3 u = .I u.toI := cn_int (k := .i64) (by kernel_rfl) u

set_option maxRecDepth 100000 in
theorem lifted_3 (os : Os) (started : os.Started) (H : Type) (enc : TypeId × Value → H) :
    ReturnsInHanded {} Try.checked os 3 .any (Rows.recordsMatchSpecSpec.pre6 enc Try.prog Try.f3 Rows.recordsMatchSpecRow.domain false) (Rows.recordsMatchSpecSpec.post enc Try.prog Try.f3 false true false false) := by
  refine returnsInHanded_of_change_sized (C := Try.checked) own started (by kernel_rfl) Try.func3
    (ChangeSpec.witness6 (enc := enc) (C := Try.checked) false ⟨#[], #[.slice none 0 0, .slice none 0 0], []⟩ 8 (by kernel_rfl) (by kernel_rfl) (by kernel_rfl) (by kernel_rfl)) ?_
  intro W base args ds gs before hval0 hW hcnd hsz0 _
  have hsz : (DataW.weightsEach Try.prog (Try.f3.params.toList ++ Rows.recordsMatchSpecSpec.plain.varTypes Try.prog) (ds ++ gs)).all (· ≤ reachBytes) = true := hsz0
  have hval : ∀ (j : Nat) t v, Try.f3.params[j]? = some t → args[j]? = some v → Value.okWide Try.prog W .any base t v := hval0
  have hW' := hW
  obtain ⟨p, q, hA0, hV, rfl, hfz, hnd⟩ := hW
  have hA : DataW.TrodAll enc Try.prog W 0 (fun _ => true) true Try.f3.params.toList args.toList ds p := hA0
  obtain ⟨rfl, rfl⟩ := trodVars_none hV
  rw [Try.params3] at hA hval hsz
  have hvt : Rows.recordsMatchSpecSpec.plain.varTypes Try.prog = [] := rfl
  rw [hvt, List.append_nil, List.append_nil] at hsz
  have hdl := trodAll_length hA
  obtain ⟨us, hl, hargs, hwf⟩ := row_args K_ok K_lim (ts := [22, 22]) (by kernel_rfl) hA (fun n hn => by
    have := List.all_eq_true.1 hsz n hn
    simpa using this) (fun j t v a b => hval j t v (by simpa using a) (by simpa using b))
  have hargs := args_cn hargs
  match us, hl, ds, hdl with
  | [u0, u1], _, [d0, d1], _ =>
    have h0 := hwf 0 (by simp)
    have h1 := hwf 1 (by simp)
    have pure : Fi K 3 [cn K 20 22 u0, cn K 20 22 u1] = some (.B true) := by obtain ⟨l0, b0, c0⟩ := wf_22 h0; obtain ⟨l1, b1, c1⟩ := wf_22 h1; exact p3 b0 b1 c0 c1
    have hS := Fi_spec K_ok K_zok K_lok K_fok K_pok pure
    refine (row_call (w := W) (r := .B true) K_fok rfl rfl hS rfl rfl rfl (t := 4) rfl (by kernel_rfl) hargs rfl).mono fun e W' ⟨he, bel⟩ => ?_
    subst he
    refine ⟨_, rfl, _, _, _, [], _, [], hW', trodAll_mk1 (shut_bool Try.underlying4 _), args_stay laidOut bel (by kernel_rfl) hA0, rfl, bel.frame _, fun h => by cases h⟩
theorem recordsMatchSpec_over : Rows.RecordsMatchSpecSaid :=
  OpenClaim.holds_of_wide 3 Try.f3 rfl rfl rfl rfl rfl rfl rfl ⟨rfl, rfl, rfl, rfl, rfl⟩ rfl rfl rfl rfl rfl (by kernel_rfl) Try.func3 (by kernel_rfl)
    (of_decide_eq_true (by kernel_rfl)) (by unfold Func.isWrapper; first | (rw [if_pos (by decide +kernel)]; kernel_rfl) | (rw [if_neg (by decide +kernel)]; exact ⟨rfl, rfl⟩))
    (fun os started H enc _ => lifted_3 os started H enc)
set_option maxRecDepth 100000 in
theorem lifted_4 (os : Os) (started : os.Started) (H : Type) (enc : TypeId × Value → H) :
    ReturnsInHanded {} Try.checked os 4 .any (Rows.recordsSurviveCutsSpec.pre6 enc Try.prog Try.f4 Rows.recordsSurviveCutsRow.domain false) (Rows.recordsSurviveCutsSpec.post enc Try.prog Try.f4 false true false false) := by
  refine returnsInHanded_of_change_sized (C := Try.checked) own started (by kernel_rfl) Try.func4
    (ChangeSpec.witness6 (enc := enc) (C := Try.checked) false ⟨#[], #[.slice none 0 0, .slice none 0 0, .int .i64 0], []⟩ 8 (by kernel_rfl) (by kernel_rfl) (by kernel_rfl) (by kernel_rfl)) ?_
  intro W base args ds gs before hval0 hW hcnd hsz0 _
  have hsz : (DataW.weightsEach Try.prog (Try.f4.params.toList ++ Rows.recordsSurviveCutsSpec.plain.varTypes Try.prog) (ds ++ gs)).all (· ≤ reachBytes) = true := hsz0
  have hval : ∀ (j : Nat) t v, Try.f4.params[j]? = some t → args[j]? = some v → Value.okWide Try.prog W .any base t v := hval0
  have hW' := hW
  obtain ⟨p, q, hA0, hV, rfl, hfz, hnd⟩ := hW
  have hA : DataW.TrodAll enc Try.prog W 0 (fun _ => true) true Try.f4.params.toList args.toList ds p := hA0
  obtain ⟨rfl, rfl⟩ := trodVars_none hV
  rw [Try.params4] at hA hval hsz
  have hvt : Rows.recordsSurviveCutsSpec.plain.varTypes Try.prog = [] := rfl
  rw [hvt, List.append_nil, List.append_nil] at hsz
  have hdl := trodAll_length hA
  obtain ⟨us, hl, hargs, hwf⟩ := row_args K_ok K_lim (ts := [22, 22, 3]) (by kernel_rfl) hA (fun n hn => by
    have := List.all_eq_true.1 hsz n hn
    simpa using this) (fun j t v a b => hval j t v (by simpa using a) (by simpa using b))
  have hargs := args_cn hargs
  match us, hl, ds, hdl with
  | [u0, u1, u2], _, [d0, d1, d2], _ =>
    have h0 := hwf 0 (by simp)
    have h1 := hwf 1 (by simp)
    have h2 := hwf 2 (by simp)
    have pure : Fi K 4 [cn K 20 22 u0, cn K 20 22 u1, cn K 20 3 u2] = some (.B true) := by obtain ⟨l0, b0, c0⟩ := wf_22 h0; obtain ⟨l1, b1, c1⟩ := wf_22 h1; rw [cn_3]; exact p4 b0 b1 c0 c1 _
    have hS := Fi_spec K_ok K_zok K_lok K_fok K_pok pure
    refine (row_call (w := W) (r := .B true) K_fok rfl rfl hS rfl rfl rfl (t := 4) rfl (by kernel_rfl) hargs rfl).mono fun e W' ⟨he, bel⟩ => ?_
    subst he
    refine ⟨_, rfl, _, _, _, [], _, [], hW', trodAll_mk1 (shut_bool Try.underlying4 _), args_stay laidOut bel (by kernel_rfl) hA0, rfl, bel.frame _, fun h => by cases h⟩
theorem recordsSurviveCuts_over : Rows.RecordsSurviveCutsSaid :=
  OpenClaim.holds_of_wide 4 Try.f4 rfl rfl rfl rfl rfl rfl rfl ⟨rfl, rfl, rfl, rfl, rfl⟩ rfl rfl rfl rfl rfl (by kernel_rfl) Try.func4 (by kernel_rfl)
    (of_decide_eq_true (by kernel_rfl)) (by unfold Func.isWrapper; first | (rw [if_pos (by decide +kernel)]; kernel_rfl) | (rw [if_neg (by decide +kernel)]; exact ⟨rfl, rfl⟩))
    (fun os started H enc _ => lifted_4 os started H enc)
set_option maxRecDepth 100000 in
theorem lifted_5 (os : Os) (started : os.Started) (H : Type) (enc : TypeId × Value → H) :
    ReturnsInHanded {} Try.checked os 5 .any (Rows.recordsRepairedGrowSpec.pre6 enc Try.prog Try.f5 Rows.recordsRepairedGrowRow.domain false) (Rows.recordsRepairedGrowSpec.post enc Try.prog Try.f5 false true false false) := by
  refine returnsInHanded_of_change_sized (C := Try.checked) own started (by kernel_rfl) Try.func5
    (ChangeSpec.witness6 (enc := enc) (C := Try.checked) false ⟨#[], #[.slice none 0 0, .slice none 0 0], []⟩ 8 (by kernel_rfl) (by kernel_rfl) (by kernel_rfl) (by kernel_rfl)) ?_
  intro W base args ds gs before hval0 hW hcnd hsz0 _
  have hsz : (DataW.weightsEach Try.prog (Try.f5.params.toList ++ Rows.recordsRepairedGrowSpec.plain.varTypes Try.prog) (ds ++ gs)).all (· ≤ reachBytes) = true := hsz0
  have hval : ∀ (j : Nat) t v, Try.f5.params[j]? = some t → args[j]? = some v → Value.okWide Try.prog W .any base t v := hval0
  have hW' := hW
  obtain ⟨p, q, hA0, hV, rfl, hfz, hnd⟩ := hW
  have hA : DataW.TrodAll enc Try.prog W 0 (fun _ => true) true Try.f5.params.toList args.toList ds p := hA0
  obtain ⟨rfl, rfl⟩ := trodVars_none hV
  rw [Try.params5] at hA hval hsz
  have hvt : Rows.recordsRepairedGrowSpec.plain.varTypes Try.prog = [] := rfl
  rw [hvt, List.append_nil, List.append_nil] at hsz
  have hdl := trodAll_length hA
  obtain ⟨us, hl, hargs, hwf⟩ := row_args K_ok K_lim (ts := [22, 22]) (by kernel_rfl) hA (fun n hn => by
    have := List.all_eq_true.1 hsz n hn
    simpa using this) (fun j t v a b => hval j t v (by simpa using a) (by simpa using b))
  have hargs := args_cn hargs
  match us, hl, ds, hdl with
  | [u0, u1], _, [d0, d1], _ =>
    have h0 := hwf 0 (by simp)
    have h1 := hwf 1 (by simp)
    have pure : Fi K 5 [cn K 20 22 u0, cn K 20 22 u1] = some (.B true) := by obtain ⟨l0, b0, c0⟩ := wf_22 h0; obtain ⟨l1, b1, c1⟩ := wf_22 h1; exact p5 b0 b1 c1
    have hS := Fi_spec K_ok K_zok K_lok K_fok K_pok pure
    refine (row_call (w := W) (r := .B true) K_fok rfl rfl hS rfl rfl rfl (t := 4) rfl (by kernel_rfl) hargs rfl).mono fun e W' ⟨he, bel⟩ => ?_
    subst he
    refine ⟨_, rfl, _, _, _, [], _, [], hW', trodAll_mk1 (shut_bool Try.underlying4 _), args_stay laidOut bel (by kernel_rfl) hA0, rfl, bel.frame _, fun h => by cases h⟩
theorem recordsRepairedGrow_over : Rows.RecordsRepairedGrowSaid :=
  OpenClaim.holds_of_wide 5 Try.f5 rfl rfl rfl rfl rfl rfl rfl ⟨rfl, rfl, rfl, rfl, rfl⟩ rfl rfl rfl rfl rfl (by kernel_rfl) Try.func5 (by kernel_rfl)
    (of_decide_eq_true (by kernel_rfl)) (by unfold Func.isWrapper; first | (rw [if_pos (by decide +kernel)]; kernel_rfl) | (rw [if_neg (by decide +kernel)]; exact ⟨rfl, rfl⟩))
    (fun os started H enc _ => lifted_5 os started H enc)
set_option maxRecDepth 100000 in
theorem lifted_6 (os : Os) (started : os.Started) (H : Type) (enc : TypeId × Value → H) :
    ReturnsInHanded {} Try.checked os 6 .any (Rows.recordsNoticeChangesSpec.pre6 enc Try.prog Try.f6 Rows.recordsNoticeChangesRow.domain false) (Rows.recordsNoticeChangesSpec.post enc Try.prog Try.f6 false true false false) := by
  refine returnsInHanded_of_change_sized (C := Try.checked) own started (by kernel_rfl) Try.func6
    (ChangeSpec.witness6 (enc := enc) (C := Try.checked) false ⟨#[], #[.slice none 0 0, .int .i64 0, .int .i64 0], []⟩ 8 (by kernel_rfl) (by kernel_rfl) (by kernel_rfl) (by kernel_rfl)) ?_
  intro W base args ds gs before hval0 hW hcnd hsz0 _
  have hsz : (DataW.weightsEach Try.prog (Try.f6.params.toList ++ Rows.recordsNoticeChangesSpec.plain.varTypes Try.prog) (ds ++ gs)).all (· ≤ reachBytes) = true := hsz0
  have hval : ∀ (j : Nat) t v, Try.f6.params[j]? = some t → args[j]? = some v → Value.okWide Try.prog W .any base t v := hval0
  have hW' := hW
  obtain ⟨p, q, hA0, hV, rfl, hfz, hnd⟩ := hW
  have hA : DataW.TrodAll enc Try.prog W 0 (fun _ => true) true Try.f6.params.toList args.toList ds p := hA0
  obtain ⟨rfl, rfl⟩ := trodVars_none hV
  rw [Try.params6] at hA hval hsz
  have hvt : Rows.recordsNoticeChangesSpec.plain.varTypes Try.prog = [] := rfl
  rw [hvt, List.append_nil, List.append_nil] at hsz
  have hdl := trodAll_length hA
  obtain ⟨us, hl, hargs, hwf⟩ := row_args K_ok K_lim (ts := [22, 3, 3]) (by kernel_rfl) hA (fun n hn => by
    have := List.all_eq_true.1 hsz n hn
    simpa using this) (fun j t v a b => hval j t v (by simpa using a) (by simpa using b))
  have hargs := args_cn hargs
  match us, hl, ds, hdl with
  | [u0, u1, u2], _, [d0, d1, d2], _ =>
    have h0 := hwf 0 (by simp)
    have h1 := hwf 1 (by simp)
    have h2 := hwf 2 (by simp)
    have pure : Fi K 6 [cn K 20 22 u0, cn K 20 3 u1, cn K 20 3 u2] = some (.B true) := by obtain ⟨l0, b0, c0⟩ := wf_22 h0; rw [cn_3, cn_3]; exact p6 b0 c0 _ _
    have hS := Fi_spec K_ok K_zok K_lok K_fok K_pok pure
    refine (row_call (w := W) (r := .B true) K_fok rfl rfl hS rfl rfl rfl (t := 4) rfl (by kernel_rfl) hargs rfl).mono fun e W' ⟨he, bel⟩ => ?_
    subst he
    refine ⟨_, rfl, _, _, _, [], _, [], hW', trodAll_mk1 (shut_bool Try.underlying4 _), args_stay laidOut bel (by kernel_rfl) hA0, rfl, bel.frame _, fun h => by cases h⟩
theorem recordsNoticeChanges_over : Rows.RecordsNoticeChangesSaid :=
  OpenClaim.holds_of_wide 6 Try.f6 rfl rfl rfl rfl rfl rfl rfl ⟨rfl, rfl, rfl, rfl, rfl⟩ rfl rfl rfl rfl rfl (by kernel_rfl) Try.func6 (by kernel_rfl)
    (of_decide_eq_true (by kernel_rfl)) (by unfold Func.isWrapper; first | (rw [if_pos (by decide +kernel)]; kernel_rfl) | (rw [if_neg (by decide +kernel)]; exact ⟨rfl, rfl⟩))
    (fun os started H enc _ => lifted_6 os started H enc)
end Go.Proofs.Ytakanjmdnbjipaa
