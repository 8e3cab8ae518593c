/- The rows of laws, out of what their functions yield. -/
import Derived.Test.YtbppeodcnkghpaaAbLaw
import Derived.Test.YtbppeodcnkghpaaCSo
import Derived.Test.YtbppeodcnkghpaaCPq
set_option linter.unusedVariables false
set_option linter.unusedSimpArgs false
namespace Go.Proofs.Ytbppeodcnkghpaa
open Go.Ab Go.ChangeShapes Go.WideShapes Go.ChangeAt Go.RowKit
set_option linter.unusedVariables false
set_option linter.unusedSimpArgs false

theorem own : ownKnob Try.prog.godebug = none := by kernel_rfl
theorem laidOut : laidOutB Try.prog = true := by kernel_rfl
theorem K_pok : PrimOk Try.prog K := fun g h F us r hp hF hr => K_sort hp hF hr
theorem K_lim : ∀ e n, (∃ ty, K.te e = some ty ∧ ∀ e', ty ≠ .ptr e') → n * Try.prog.bytesOf e ≤ reachBytes → n ≤ K.lim e := Tab.hlim (T := T) (by kernel_rfl)
theorem Is.range {α : Type} (f : α → U) (g : Nat → α) (b : Bool) (n : Nat) : Is f (U.ofL b ((List.range n).map fun i => f (g i))) ((List.range n).map g) := by
  have := Is.mk' f b ((List.range n).map g)
  rw [List.map_map] at this
  exact this
theorem cn_int {t : Nat} {k : IntKind} (h : K.te t = some (.int k)) (u : U) : cn K 20 t u = .I u.toI := by
  unfold cn; rw [h]
theorem cn_bool {t : Nat} (h : K.te t = some .bool) (u : U) : cn K 20 t u = .B u.toB := by
  unfold cn; rw [h]
theorem cn_str {t : Nat} (h : K.te t = some .str) (u : U) : cn K 20 t u = .S u.toS := by
  unfold cn; rw [h]
theorem wf_str {lw : Nat → Nat} {t : Nat} {u : U} (ht : K.te t = some .str) (h : WfL K lw t u) : u.toS.length ≤ 140737488351232 := by
  cases h with
  | str h hw => exact hw
  | int h => rw [h] at ht; cases ht
  | bool h => rw [h] at ht; cases ht
  | sl h => rw [h] at ht; cases ht
  | st h => rw [h] at ht; cases ht
theorem wf_int {lw : Nat → Nat} {t : Nat} {k : IntKind} {u : U} (ht : K.te t = some (.int k)) (h : WfL K lw t u) : (Lit.int k u.toI).wf = true := by
  cases h with
  | int h hw => rw [h] at ht; cases ht; exact hw
  | str h => rw [h] at ht; cases ht
  | bool h => rw [h] at ht; cases ht
  | sl h => rw [h] at ht; cases ht
  | st h => rw [h] at ht; cases ht
theorem wf_sl {lw : Nat → Nat} {t e : Nat} {u : U} (ht : K.te t = some (.sl e)) (h : WfL K lw t u) : (u.isNil = true → u.len = 0) ∧ u.len ≤ lw e ∧ ∀ i, i < u.len → WfL K lw e (u.get i) := by
  cases h with
  | sl h hn hl he => rw [h] at ht; cases ht; exact ⟨hn, hl, he⟩
  | int h => rw [h] at ht; cases ht
  | bool h => rw [h] at ht; cases ht
  | str h => rw [h] at ht; cases ht
  | st h => rw [h] at ht; cases ht
theorem wf_st {lw : Nat → Nat} {t : Nat} {fs : List Nat} {u : U} (ht : K.te t = some (.st fs)) (h : WfL K lw t u) : ∀ j, j < fs.length → WfL K lw (nthN fs j) (u.get j) := by
  cases h with
  | st h hf => rw [h] at ht; cases ht; exact hf
  | int h => rw [h] at ht; cases ht
  | bool h => rw [h] at ht; cases ht
  | str h => rw [h] at ht; cases ht
  | sl h => rw [h] at ht; cases ht

noncomputable def lw (e : Nat) : Nat := bif Nat.beq e 39 then 2932031007317 else K.lim e
theorem K_lw : ∀ e n, (∃ ty, K.te e = some ty ∧ ∀ e', ty ≠ .ptr e') → n * Try.prog.bytesOf e ≤ reachBytes → n ≤ lw e := fun e n h hn => by
  unfold lw
  cases he : Nat.beq e 39 with
  | false => exact K_lim e n h hn
  | true =>
    have e1 : e = 39 := Nat.eq_of_beq_eq_true he
    subst e1
    have hb : Try.prog.bytesOf 39 = 48 := by kernel_rfl
    rw [hb] at hn
    unfold reachBytes at hn
    show n ≤ 2932031007317
    omega
theorem cn_37 (u : U) : cn K 20 37 u = .ofL u.isNil ((List.range u.len).map fun i => .S (u.get i).toS) := by kernel_rfl
theorem is_37 (u : U) : Is U.S (cn K 20 37 u) ((List.range u.len).map fun i => (u.get i).toS) := by
  rw [cn_37]
  exact Is.range U.S (fun i => (u.get i).toS) _ _
def toLt (u : U) : Lt := ⟨(u.get 0).toS, (List.range (u.get 1).len).map fun j => ((u.get 1).get j).toS, (u.get 2).toI⟩
def ltU (u : U) : U := .ofL false [.S (u.get 0).toS, .ofL (u.get 1).isNil ((List.range (u.get 1).len).map fun j => .S ((u.get 1).get j).toS), .I (u.get 2).toI]
theorem cn_22 (u : U) : cn K 20 22 u = .ofL u.isNil ((List.range u.len).map fun i => ltU (u.get i)) := by kernel_rfl
theorem ltU_is (u : U) : LtU (ltU u) (toLt u) := ⟨rfl, Is.range U.S (fun j => ((u.get 1).get j).toS) (u.get 1).isNil (u.get 1).len, rfl⟩
theorem lts_22 {u : U} (h : WfL K lw 22 u) : ∃ l : List Lt, LtsU (cn K 20 22 u) l ∧ l.length ≤ 2932031007317 ∧ ∀ x ∈ l, x.refs.length ≤ 1000000000000000 := by
  obtain ⟨h1, h2, h3⟩ := wf_sl (t := 22) (e := 39) (by kernel_rfl) h
  have hl : u.len ≤ 2932031007317 := h2
  refine ⟨(List.range u.len).map fun i => toLt (u.get i), ?_, by simpa using hl, fun x hx => ?_⟩
  · rw [cn_22]
    refine ⟨by simp, fun i x hx => ?_⟩
    rw [List.getElem?_map] at hx
    by_cases hi : i < u.len
    · rw [List.getElem?_range hi] at hx
      cases hx
      rw [get_ofL', nth_rangeMap _ hi]
      exact ltU_is _
    · rw [List.getElem?_eq_none (by simpa using hi)] at hx; cases hx
  · obtain ⟨i, hi, rfl⟩ := List.mem_map.1 hx
    have h4 := wf_st (t := 39) (fs := [9, 37, 3]) (by kernel_rfl) (h3 i (List.mem_range.1 hi)) 1 (by decide)
    obtain ⟨_, h5, _⟩ := wf_sl (t := 37) (e := 9) (by kernel_rfl) h4
    have h5 : ((u.get i).get 1).len ≤ 8796093022208 := h5
    simp [toLt]
    omega

set_option maxRecDepth 100000 in
theorem lifted_3 (os : Os) (started : os.Started) (H : Type) (enc : TypeId × Value → H) :
    ReturnsInHanded {} Try.checked os 3 .any (Rows.threadsMatchSpecSpec.pre6 enc Try.prog Try.f3 Rows.threadsMatchSpecRow.domain false) (Rows.threadsMatchSpecSpec.post enc Try.prog Try.f3 false true false false) := by
  refine returnsInHanded_of_change_sized (C := Try.checked) own started (by kernel_rfl) Try.func3
    (ChangeSpec.witness6 (enc := enc) (C := Try.checked) false ⟨#[], #[.slice none 0 0], []⟩ 8 (by kernel_rfl) (by kernel_rfl) (by kernel_rfl) (by kernel_rfl)) ?_
  intro W base args ds gs before hval0 hW hcnd hsz0 _
  have hsz : (DataW.weightsEach Try.prog (Try.f3.params.toList ++ Rows.threadsMatchSpecSpec.plain.varTypes Try.prog) (ds ++ gs)).all (· ≤ reachBytes) = true := hsz0
  have hval : ∀ (j : Nat) t v, Try.f3.params[j]? = some t → args[j]? = some v → Value.okWide Try.prog W .any base t v := hval0
  have hW' := hW
  obtain ⟨p, q, hA0, hV, rfl, hfz, hnd⟩ := hW
  have hA : DataW.TrodAll enc Try.prog W 0 (fun _ => true) true Try.f3.params.toList args.toList ds p := hA0
  obtain ⟨rfl, rfl⟩ := trodVars_none hV
  rw [Try.params3] at hA hval hsz
  have hvt : Rows.threadsMatchSpecSpec.plain.varTypes Try.prog = [] := rfl
  rw [hvt, List.append_nil, List.append_nil] at hsz
  have hdl := trodAll_length hA
  obtain ⟨us, hl, hargs, hwf⟩ := row_args K_ok K_lw (ts := [22]) (by kernel_rfl) hA (fun n hn => by
    have := List.all_eq_true.1 hsz n hn
    simpa using this) (fun j t v a b => hval j t v (by simpa using a) (by simpa using b))
  have hargs := args_cn hargs
  match us, hl, ds, hdl with
  | [u0], _, [d0], _ =>
    have h0 := hwf 0 (by simp)
    have pure : Fi K 3 [cn K 20 22 u0] = some (.B true) := by obtain ⟨l, a, b, c⟩ := lts_22 h0; exact p3 a
    have hS := Fi_spec K_ok K_zok K_lok K_fok K_pok pure
    refine (row_call (w := W) (r := .B true) K_fok rfl rfl hS rfl rfl rfl (t := 4) rfl (by kernel_rfl) hargs rfl).mono fun e W' ⟨he, bel⟩ => ?_
    subst he
    refine ⟨_, rfl, _, _, _, [], _, [], hW', trodAll_mk1 (shut_bool Try.underlying4 _), args_stay laidOut bel (by kernel_rfl) hA0, rfl, bel.frame _, fun h => by cases h⟩
theorem threadsMatchSpec_over : Rows.ThreadsMatchSpecSaid :=
  OpenClaim.holds_of_wide 3 Try.f3 rfl rfl rfl rfl rfl rfl rfl ⟨rfl, rfl, rfl, rfl, rfl⟩ rfl rfl rfl rfl rfl (by kernel_rfl) Try.func3 (by kernel_rfl)
    (of_decide_eq_true (by kernel_rfl)) (by unfold Func.isWrapper; first | (rw [if_pos (by decide +kernel)]; kernel_rfl) | (rw [if_neg (by decide +kernel)]; exact ⟨rfl, rfl⟩))
    (fun os started H enc _ => lifted_3 os started H enc)
set_option maxRecDepth 100000 in
theorem lifted_4 (os : Os) (started : os.Started) (H : Type) (enc : TypeId × Value → H) :
    ReturnsInHanded {} Try.checked os 4 .any (Rows.threadsArrivalDoesNotMatterSpec.pre6 enc Try.prog Try.f4 Rows.threadsArrivalDoesNotMatterRow.domain false) (Rows.threadsArrivalDoesNotMatterSpec.post enc Try.prog Try.f4 false true false false) := by
  refine returnsInHanded_of_change_sized (C := Try.checked) own started (by kernel_rfl) Try.func4
    (ChangeSpec.witness6 (enc := enc) (C := Try.checked) false ⟨#[], #[.slice none 0 0], []⟩ 8 (by kernel_rfl) (by kernel_rfl) (by kernel_rfl) (by kernel_rfl)) ?_
  intro W base args ds gs before hval0 hW hcnd hsz0 _
  have hsz : (DataW.weightsEach Try.prog (Try.f4.params.toList ++ Rows.threadsArrivalDoesNotMatterSpec.plain.varTypes Try.prog) (ds ++ gs)).all (· ≤ reachBytes) = true := hsz0
  have hval : ∀ (j : Nat) t v, Try.f4.params[j]? = some t → args[j]? = some v → Value.okWide Try.prog W .any base t v := hval0
  have hW' := hW
  obtain ⟨p, q, hA0, hV, rfl, hfz, hnd⟩ := hW
  have hA : DataW.TrodAll enc Try.prog W 0 (fun _ => true) true Try.f4.params.toList args.toList ds p := hA0
  obtain ⟨rfl, rfl⟩ := trodVars_none hV
  rw [Try.params4] at hA hval hsz
  have hvt : Rows.threadsArrivalDoesNotMatterSpec.plain.varTypes Try.prog = [] := rfl
  rw [hvt, List.append_nil, List.append_nil] at hsz
  have hdl := trodAll_length hA
  obtain ⟨us, hl, hargs, hwf⟩ := row_args K_ok K_lw (ts := [22]) (by kernel_rfl) hA (fun n hn => by
    have := List.all_eq_true.1 hsz n hn
    simpa using this) (fun j t v a b => hval j t v (by simpa using a) (by simpa using b))
  have hargs := args_cn hargs
  match us, hl, ds, hdl with
  | [u0], _, [d0], _ =>
    have h0 := hwf 0 (by simp)
    have pure : Fi K 4 [cn K 20 22 u0] = some (.B true) := by obtain ⟨l, a, b, c⟩ := lts_22 h0; exact p4 a (by omega)
    have hS := Fi_spec K_ok K_zok K_lok K_fok K_pok pure
    refine (row_call (w := W) (r := .B true) K_fok rfl rfl hS rfl rfl rfl (t := 4) rfl (by kernel_rfl) hargs rfl).mono fun e W' ⟨he, bel⟩ => ?_
    subst he
    refine ⟨_, rfl, _, _, _, [], _, [], hW', trodAll_mk1 (shut_bool Try.underlying4 _), args_stay laidOut bel (by kernel_rfl) hA0, rfl, bel.frame _, fun h => by cases h⟩
theorem threadsArrivalDoesNotMatter_over : Rows.ThreadsArrivalDoesNotMatterSaid :=
  OpenClaim.holds_of_wide 4 Try.f4 rfl rfl rfl rfl rfl rfl rfl ⟨rfl, rfl, rfl, rfl, rfl⟩ rfl rfl rfl rfl rfl (by kernel_rfl) Try.func4 (by kernel_rfl)
    (of_decide_eq_true (by kernel_rfl)) (by unfold Func.isWrapper; first | (rw [if_pos (by decide +kernel)]; kernel_rfl) | (rw [if_neg (by decide +kernel)]; exact ⟨rfl, rfl⟩))
    (fun os started H enc _ => lifted_4 os started H enc)
set_option maxRecDepth 100000 in
theorem lifted_5 (os : Os) (started : os.Started) (H : Type) (enc : TypeId × Value → H) :
    ReturnsInHanded {} Try.checked os 5 .any (Rows.threadsAnswersFollowSpec.pre6 enc Try.prog Try.f5 Rows.threadsAnswersFollowRow.domain false) (Rows.threadsAnswersFollowSpec.post enc Try.prog Try.f5 false true false false) := by
  refine returnsInHanded_of_change_sized (C := Try.checked) own started (by kernel_rfl) Try.func5
    (ChangeSpec.witness6 (enc := enc) (C := Try.checked) false ⟨#[], #[.slice none 0 0], []⟩ 8 (by kernel_rfl) (by kernel_rfl) (by kernel_rfl) (by kernel_rfl)) ?_
  intro W base args ds gs before hval0 hW hcnd hsz0 _
  have hsz : (DataW.weightsEach Try.prog (Try.f5.params.toList ++ Rows.threadsAnswersFollowSpec.plain.varTypes Try.prog) (ds ++ gs)).all (· ≤ reachBytes) = true := hsz0
  have hval : ∀ (j : Nat) t v, Try.f5.params[j]? = some t → args[j]? = some v → Value.okWide Try.prog W .any base t v := hval0
  have hW' := hW
  obtain ⟨p, q, hA0, hV, rfl, hfz, hnd⟩ := hW
  have hA : DataW.TrodAll enc Try.prog W 0 (fun _ => true) true Try.f5.params.toList args.toList ds p := hA0
  obtain ⟨rfl, rfl⟩ := trodVars_none hV
  rw [Try.params5] at hA hval hsz
  have hvt : Rows.threadsAnswersFollowSpec.plain.varTypes Try.prog = [] := rfl
  rw [hvt, List.append_nil, List.append_nil] at hsz
  have hdl := trodAll_length hA
  obtain ⟨us, hl, hargs, hwf⟩ := row_args K_ok K_lw (ts := [22]) (by kernel_rfl) hA (fun n hn => by
    have := List.all_eq_true.1 hsz n hn
    simpa using this) (fun j t v a b => hval j t v (by simpa using a) (by simpa using b))
  have hargs := args_cn hargs
  match us, hl, ds, hdl with
  | [u0], _, [d0], _ =>
    have h0 := hwf 0 (by simp)
    have pure : Fi K 5 [cn K 20 22 u0] = some (.B true) := by obtain ⟨l, a, b, c⟩ := lts_22 h0; exact p5 a
    have hS := Fi_spec K_ok K_zok K_lok K_fok K_pok pure
    refine (row_call (w := W) (r := .B true) K_fok rfl rfl hS rfl rfl rfl (t := 4) rfl (by kernel_rfl) hargs rfl).mono fun e W' ⟨he, bel⟩ => ?_
    subst he
    refine ⟨_, rfl, _, _, _, [], _, [], hW', trodAll_mk1 (shut_bool Try.underlying4 _), args_stay laidOut bel (by kernel_rfl) hA0, rfl, bel.frame _, fun h => by cases h⟩
theorem threadsAnswersFollow_over : Rows.ThreadsAnswersFollowSaid :=
  OpenClaim.holds_of_wide 5 Try.f5 rfl rfl rfl rfl rfl rfl rfl ⟨rfl, rfl, rfl, rfl, rfl⟩ rfl rfl rfl rfl rfl (by kernel_rfl) Try.func5 (by kernel_rfl)
    (of_decide_eq_true (by kernel_rfl)) (by unfold Func.isWrapper; first | (rw [if_pos (by decide +kernel)]; kernel_rfl) | (rw [if_neg (by decide +kernel)]; exact ⟨rfl, rfl⟩))
    (fun os started H enc _ => lifted_5 os started H enc)
set_option maxRecDepth 100000 in
theorem lifted_6 (os : Os) (started : os.Started) (H : Type) (enc : TypeId × Value → H) :
    ReturnsInHanded {} Try.checked os 6 .any (Rows.threadsLaterLettersChangeNothingSpec.pre6 enc Try.prog Try.f6 Rows.threadsLaterLettersChangeNothingRow.domain false) (Rows.threadsLaterLettersChangeNothingSpec.post enc Try.prog Try.f6 false true false false) := by
  refine returnsInHanded_of_change_sized (C := Try.checked) own started (by kernel_rfl) Try.func6
    (ChangeSpec.witness6 (enc := enc) (C := Try.checked) false ⟨#[], #[.slice none 0 0, .slice none 0 0], []⟩ 8 (by kernel_rfl) (by kernel_rfl) (by kernel_rfl) (by kernel_rfl)) ?_
  intro W base args ds gs before hval0 hW hcnd hsz0 _
  have hsz : (DataW.weightsEach Try.prog (Try.f6.params.toList ++ Rows.threadsLaterLettersChangeNothingSpec.plain.varTypes Try.prog) (ds ++ gs)).all (· ≤ reachBytes) = true := hsz0
  have hval : ∀ (j : Nat) t v, Try.f6.params[j]? = some t → args[j]? = some v → Value.okWide Try.prog W .any base t v := hval0
  have hW' := hW
  obtain ⟨p, q, hA0, hV, rfl, hfz, hnd⟩ := hW
  have hA : DataW.TrodAll enc Try.prog W 0 (fun _ => true) true Try.f6.params.toList args.toList ds p := hA0
  obtain ⟨rfl, rfl⟩ := trodVars_none hV
  rw [Try.params6] at hA hval hsz
  have hvt : Rows.threadsLaterLettersChangeNothingSpec.plain.varTypes Try.prog = [] := rfl
  rw [hvt, List.append_nil, List.append_nil] at hsz
  have hdl := trodAll_length hA
  obtain ⟨us, hl, hargs, hwf⟩ := row_args K_ok K_lw (ts := [22, 37]) (by kernel_rfl) hA (fun n hn => by
    have := List.all_eq_true.1 hsz n hn
    simpa using this) (fun j t v a b => hval j t v (by simpa using a) (by simpa using b))
  have hargs := args_cn hargs
  match us, hl, ds, hdl with
  | [u0, u1], _, [d0, d1], _ =>
    have h0 := hwf 0 (by simp)
    have h1 := hwf 1 (by simp)
    have pure : Fi K 6 [cn K 20 22 u0, cn K 20 37 u1] = some (.B true) := by obtain ⟨l, a, b, c⟩ := lts_22 h0; exact p6 a (is_37 u1) (by omega) c
    have hS := Fi_spec K_ok K_zok K_lok K_fok K_pok pure
    refine (row_call (w := W) (r := .B true) K_fok rfl rfl hS rfl rfl rfl (t := 4) rfl (by kernel_rfl) hargs rfl).mono fun e W' ⟨he, bel⟩ => ?_
    subst he
    refine ⟨_, rfl, _, _, _, [], _, [], hW', trodAll_mk1 (shut_bool Try.underlying4 _), args_stay laidOut bel (by kernel_rfl) hA0, rfl, bel.frame _, fun h => by cases h⟩
theorem threadsLaterLettersChangeNothing_over : Rows.ThreadsLaterLettersChangeNothingSaid :=
  OpenClaim.holds_of_wide 6 Try.f6 rfl rfl rfl rfl rfl rfl rfl ⟨rfl, rfl, rfl, rfl, rfl⟩ rfl rfl rfl rfl rfl (by kernel_rfl) Try.func6 (by kernel_rfl)
    (of_decide_eq_true (by kernel_rfl)) (by unfold Func.isWrapper; first | (rw [if_pos (by decide +kernel)]; kernel_rfl) | (rw [if_neg (by decide +kernel)]; exact ⟨rfl, rfl⟩))
    (fun os started H enc _ => lifted_6 os started H enc)
end Go.Proofs.Ytbppeodcnkghpaa
