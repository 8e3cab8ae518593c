/- The rows of four laws, out of what their functions yield. -/
import Derived.Test.YtegmhhojpngklaaAbLaw
import Derived.Test.YtegmhhojpngklaaCInsB
import Derived.Test.YtegmhhojpngklaaCPi
namespace Go.Proofs.Ytegmhhojpngklaa
open Go.Ab Go.ChangeShapes Go.WideShapes Go.ChangeAt Go.RowKit
set_option linter.unusedVariables false
set_option linter.unusedSimpArgs false

theorem own : ownKnob Try.prog.godebug = none := by kernel_rfl
theorem laidOut : laidOutB Try.prog = true := by kernel_rfl
theorem K_pok : PrimOk Try.prog K := fun g h us r hp hr => by
  have hm := assoc_mem (show assoc prs g = some h from hp)
  have hm := List.mem_singleton.1 hm
  cases hm
  exact Ins.spec hr
theorem K_lim : ∀ e n, (∃ ty, K.te e = some ty ∧ ∀ e', ty ≠ .ptr e') → n * Try.prog.bytesOf e ≤ reachBytes → n ≤ K.lim e := Tab.hlim (T := T) (by kernel_rfl)

theorem Is.range {α : Type} (f : α → U) (g : Nat → α) (b : Bool) (n : Nat) : Is f (U.ofL b ((List.range n).map fun i => f (g i))) ((List.range n).map g) := by
  have := Is.mk' f b ((List.range n).map g)
  rw [List.map_map] at this
  exact this
def toG (u : U) : Gr := ((u.get 0).toS, (u.get 1).toB, (u.get 2).toI)
def toP (u : U) : Gp := ((u.get 0).toS, (u.get 1).isNil, (List.range (u.get 1).len).map fun j => ((u.get 1).get j).toS)
theorem cn_9 (u : U) : cn K 20 9 u = .S u.toS := by kernel_rfl
theorem cn_4 (u : U) : cn K 20 4 u = .B u.toB := by kernel_rfl
theorem cn_3 (u : U) : cn K 20 3 u = .I u.toI := by kernel_rfl
theorem cn_25 (u : U) : cn K 20 25 u = gU (toG u) := by kernel_rfl
theorem cn_23 (u : U) : cn K 20 23 u = .ofL u.isNil ((List.range u.len).map fun i => gU (toG (u.get i))) := by kernel_rfl
theorem cn_22 (u : U) : cn K 20 22 u = .ofL u.isNil ((List.range u.len).map fun i => pU (toP (u.get i))) := by
  have h : cn K 20 22 u = .ofL u.isNil ((List.range u.len).map fun i => .ofL false [.S ((u.get i).get 0).toS, .ofL ((u.get i).get 1).isNil ((List.range ((u.get i).get 1).len).map fun j => .S (((u.get i).get 1).get j).toS)]) := by kernel_rfl
  rw [h]
  congr 2
  funext i
  unfold pU toP
  simp only [List.map_map]
  rfl
theorem wf_9 {u : U} (h : Wf K 9 u) : Sm u.toS := by
  cases h with
  | str h hw => exact hw
  | int h => cases (show some Ab.Ty.str = some (.int _) from h)
  | bool h => cases (show some Ab.Ty.str = some Ab.Ty.bool from h)
  | sl h => cases (show some Ab.Ty.str = some (.sl _) from h)
  | st h => cases (show some Ab.Ty.str = some (.st _) from h)
theorem wf_sl {t e : Nat} {u : U} (ht : K.te t = some (.sl e)) (h : Wf K t u) : (u.isNil = true → u.len = 0) ∧ u.len ≤ K.lim e ∧ ∀ i, i < u.len → Wf K e (u.get i) := by
  cases h with
  | sl h hn hl he => rw [h] at ht; cases ht; exact ⟨hn, hl, he⟩
  | int h => rw [h] at ht; cases ht
  | bool h => rw [h] at ht; cases ht
  | str h => rw [h] at ht; cases ht
  | st h => rw [h] at ht; cases ht
theorem wf_st {t : Nat} {fs : List Nat} {u : U} (ht : K.te t = some (.st fs)) (h : Wf K t u) : ∀ j, j < fs.length → Wf K (nthN fs j) (u.get j) := by
  cases h with
  | st h hf => rw [h] at ht; cases ht; exact hf
  | int h => rw [h] at ht; cases ht
  | bool h => rw [h] at ht; cases ht
  | str h => rw [h] at ht; cases ht
  | sl h => rw [h] at ht; cases ht
theorem wf_25 {u : U} (h : Wf K 25 u) : Sm (toG u).1 := wf_9 (wf_st (t := 25) (fs := [9, 4, 3]) (by kernel_rfl) h 0 (by decide))
theorem wf_23 {u : U} (h : Wf K 23 u) : GrsOk (cn K 20 23 u) ((List.range u.len).map fun i => toG (u.get i)) := by
  obtain ⟨h1, h2, h3⟩ := wf_sl (t := 23) (e := 25) (by kernel_rfl) h
  have hl : u.len ≤ 4398046511104 := h2
  rw [cn_23]
  refine ⟨⟨Is.range gU (fun i => toG (u.get i)) _ _, fun hn => ?_⟩, by unfold Short; simp; omega, fun x hx => ?_⟩
  · rw [h1 hn]; rfl
  · obtain ⟨i, hi, rfl⟩ := List.mem_map.1 hx
    exact wf_25 (h3 i (List.mem_range.1 hi))
theorem wf_55 {u : U} (h : Wf K 55 u) : GpOk (toP u) := by
  have hs := wf_st (t := 55) (fs := [9, 53]) (by kernel_rfl) h
  obtain ⟨h1, h2, h3⟩ := wf_sl (t := 53) (e := 9) (by kernel_rfl) (hs 1 (by decide))
  have hl : (u.get 1).len ≤ 8796093022208 := h2
  refine ⟨wf_9 (hs 0 (by decide)), by unfold Short toP; simp; omega, fun m hm => ?_⟩
  obtain ⟨i, hi, rfl⟩ := List.mem_map.1 hm
  exact wf_9 (h3 i (List.mem_range.1 hi))
theorem wf_22 {u : U} (h : Wf K 22 u) : GpsOk (cn K 20 22 u) ((List.range u.len).map fun i => toP (u.get i)) := by
  obtain ⟨h1, h2, h3⟩ := wf_sl (t := 22) (e := 55) (by kernel_rfl) h
  have hl : u.len ≤ 3518437208883 := h2
  rw [cn_22]
  refine ⟨Is.range pU (fun i => toP (u.get i)) _ _, by unfold Short; simp; omega, fun x hx => ?_⟩
  obtain ⟨i, hi, rfl⟩ := List.mem_map.1 hx
  exact wf_55 (h3 i (List.mem_range.1 hi))

set_option maxRecDepth 100000 in
theorem lifted_3 (os : Os) (started : os.Started) (H : Type) (enc : TypeId × Value → H) :
    ReturnsInHanded {} Try.checked os 3 .any (Rows.rightsMatchSpecSpec.pre6 enc Try.prog Try.f3 Rows.rightsMatchSpecRow.domain false) (Rows.rightsMatchSpecSpec.post enc Try.prog Try.f3 false true false false) := by
  refine returnsInHanded_of_change_sized (C := Try.checked) own started (by kernel_rfl) Try.func3
    (ChangeSpec.witness6 (enc := enc) (C := Try.checked) false ⟨#[], #[.slice none 0 0, .slice none 0 0, .string ByteArray.empty, .agg #[.string ByteArray.empty, .bool false, .int .i64 0]], []⟩ 8 (by kernel_rfl) (by kernel_rfl) (by kernel_rfl) (by kernel_rfl)) ?_
  intro W base args ds gs before hval0 hW hcnd hsz0 _
  have hsz : (DataW.weightsEach Try.prog (Try.f3.params.toList ++ Rows.rightsMatchSpecSpec.plain.varTypes Try.prog) (ds ++ gs)).all (· ≤ reachBytes) = true := hsz0
  have hval : ∀ (j : Nat) t v, Try.f3.params[j]? = some t → args[j]? = some v → Value.okWide Try.prog W .any base t v := hval0
  have hW' := hW
  obtain ⟨p, q, hA0, hV, rfl, hfz, hnd⟩ := hW
  have hA : DataW.TrodAll enc Try.prog W 0 (fun _ => true) true Try.f3.params.toList args.toList ds p := hA0
  obtain ⟨rfl, rfl⟩ := trodVars_none hV
  rw [Try.params3] at hA hval hsz
  have hvt : Rows.rightsMatchSpecSpec.plain.varTypes Try.prog = [] := rfl
  rw [hvt, List.append_nil, List.append_nil] at hsz
  have hdl := trodAll_length hA
  obtain ⟨us, hl, hargs, hwf⟩ := row_args K_ok K_lim (ts := [22, 23, 9, 25]) (by kernel_rfl) hA (fun n hn => by
    have := List.all_eq_true.1 hsz n hn
    simpa using this) (fun j t v a b => hval j t v (by simpa using a) (by simpa using b))
  have hargs := args_cn hargs
  match us, hl, ds, hdl with
  | [u0, u1, u2, u3], _, [d0, d1, d2, d3], _ =>
    have h0 := hwf 0 (by simp)
    have h1 := hwf 1 (by simp)
    have h2 := hwf 2 (by simp)
    have h3 := hwf 3 (by simp)
    have pure : Fi K 3 [cn K 20 22 u0, cn K 20 23 u1, cn K 20 9 u2, cn K 20 25 u3] = some (.B true) := by rw [cn_9, cn_25]; exact p3 (wf_22 h0) (wf_23 h1) _ (wf_9 h2) _ (wf_25 h3)
    have hS := Fi_spec K_ok K_zok K_lok K_fok K_pok pure
    refine (row_call (w := W) (r := .B true) K_fok rfl rfl hS rfl rfl rfl (t := 4) rfl (by kernel_rfl) hargs rfl).mono fun e W' ⟨he, bel⟩ => ?_
    subst he
    refine ⟨_, rfl, _, _, _, [], _, [], hW', trodAll_mk1 (shut_bool Try.underlying4 _), args_stay laidOut bel (by kernel_rfl) hA0, rfl, bel.frame _, fun h => by cases h⟩
theorem rightsMatchSpec_over : Rows.RightsMatchSpecSaid :=
  OpenClaim.holds_of_wide 3 Try.f3 rfl rfl rfl rfl rfl rfl rfl ⟨rfl, rfl, rfl, rfl, rfl⟩ rfl rfl rfl rfl rfl (by kernel_rfl) Try.func3 (by kernel_rfl)
    (of_decide_eq_true (by kernel_rfl)) (by unfold Func.isWrapper; first | (rw [if_pos (by decide +kernel)]; kernel_rfl) | (rw [if_neg (by decide +kernel)]; exact ⟨rfl, rfl⟩))
    (fun os started H enc _ => lifted_3 os started H enc)
set_option maxRecDepth 100000 in
theorem lifted_4 (os : Os) (started : os.Started) (H : Type) (enc : TypeId × Value → H) :
    ReturnsInHanded {} Try.checked os 4 .any (Rows.rightsSetIsSeenSpec.pre6 enc Try.prog Try.f4 Rows.rightsSetIsSeenRow.domain false) (Rows.rightsSetIsSeenSpec.post enc Try.prog Try.f4 false true false false) := by
  refine returnsInHanded_of_change_sized (C := Try.checked) own started (by kernel_rfl) Try.func4
    (ChangeSpec.witness6 (enc := enc) (C := Try.checked) false ⟨#[], #[.slice none 0 0, .slice none 0 0, .string ByteArray.empty, .bool false, .int .i64 0], []⟩ 8 (by kernel_rfl) (by kernel_rfl) (by kernel_rfl) (by kernel_rfl)) ?_
  intro W base args ds gs before hval0 hW hcnd hsz0 _
  have hsz : (DataW.weightsEach Try.prog (Try.f4.params.toList ++ Rows.rightsSetIsSeenSpec.plain.varTypes Try.prog) (ds ++ gs)).all (· ≤ reachBytes) = true := hsz0
  have hval : ∀ (j : Nat) t v, Try.f4.params[j]? = some t → args[j]? = some v → Value.okWide Try.prog W .any base t v := hval0
  have hW' := hW
  obtain ⟨p, q, hA0, hV, rfl, hfz, hnd⟩ := hW
  have hA : DataW.TrodAll enc Try.prog W 0 (fun _ => true) true Try.f4.params.toList args.toList ds p := hA0
  obtain ⟨rfl, rfl⟩ := trodVars_none hV
  rw [Try.params4] at hA hval hsz
  have hvt : Rows.rightsSetIsSeenSpec.plain.varTypes Try.prog = [] := rfl
  rw [hvt, List.append_nil, List.append_nil] at hsz
  have hdl := trodAll_length hA
  obtain ⟨us, hl, hargs, hwf⟩ := row_args K_ok K_lim (ts := [22, 23, 9, 4, 3]) (by kernel_rfl) hA (fun n hn => by
    have := List.all_eq_true.1 hsz n hn
    simpa using this) (fun j t v a b => hval j t v (by simpa using a) (by simpa using b))
  have hargs := args_cn hargs
  match us, hl, ds, hdl with
  | [u0, u1, u2, u3, u4], _, [d0, d1, d2, d3, d4], _ =>
    have h0 := hwf 0 (by simp)
    have h1 := hwf 1 (by simp)
    have h2 := hwf 2 (by simp)
    have h3 := hwf 3 (by simp)
    have h4 := hwf 4 (by simp)
    have pure : Fi K 4 [cn K 20 22 u0, cn K 20 23 u1, cn K 20 9 u2, cn K 20 4 u3, cn K 20 3 u4] = some (.B true) := by rw [cn_9, cn_4, cn_3]; exact p4 (wf_22 h0) (wf_23 h1) _ (wf_9 h2) _ _
    have hS := Fi_spec K_ok K_zok K_lok K_fok K_pok pure
    refine (row_call (w := W) (r := .B true) K_fok rfl rfl hS rfl rfl rfl (t := 4) rfl (by kernel_rfl) hargs rfl).mono fun e W' ⟨he, bel⟩ => ?_
    subst he
    refine ⟨_, rfl, _, _, _, [], _, [], hW', trodAll_mk1 (shut_bool Try.underlying4 _), args_stay laidOut bel (by kernel_rfl) hA0, rfl, bel.frame _, fun h => by cases h⟩
theorem rightsSetIsSeen_over : Rows.RightsSetIsSeenSaid :=
  OpenClaim.holds_of_wide 4 Try.f4 rfl rfl rfl rfl rfl rfl rfl ⟨rfl, rfl, rfl, rfl, rfl⟩ rfl rfl rfl rfl rfl (by kernel_rfl) Try.func4 (by kernel_rfl)
    (of_decide_eq_true (by kernel_rfl)) (by unfold Func.isWrapper; first | (rw [if_pos (by decide +kernel)]; kernel_rfl) | (rw [if_neg (by decide +kernel)]; exact ⟨rfl, rfl⟩))
    (fun os started H enc _ => lifted_4 os started H enc)
set_option maxRecDepth 100000 in
theorem lifted_5 (os : Os) (started : os.Started) (H : Type) (enc : TypeId × Value → H) :
    ReturnsInHanded {} Try.checked os 5 .any (Rows.rightsSetTwiceIsOnceSpec.pre6 enc Try.prog Try.f5 Rows.rightsSetTwiceIsOnceRow.domain false) (Rows.rightsSetTwiceIsOnceSpec.post enc Try.prog Try.f5 false true false false) := by
  refine returnsInHanded_of_change_sized (C := Try.checked) own started (by kernel_rfl) Try.func5
    (ChangeSpec.witness6 (enc := enc) (C := Try.checked) false ⟨#[], #[.slice none 0 0, .agg #[.string ByteArray.empty, .bool false, .int .i64 0]], []⟩ 8 (by kernel_rfl) (by kernel_rfl) (by kernel_rfl) (by kernel_rfl)) ?_
  intro W base args ds gs before hval0 hW hcnd hsz0 _
  have hsz : (DataW.weightsEach Try.prog (Try.f5.params.toList ++ Rows.rightsSetTwiceIsOnceSpec.plain.varTypes Try.prog) (ds ++ gs)).all (· ≤ reachBytes) = true := hsz0
  have hval : ∀ (j : Nat) t v, Try.f5.params[j]? = some t → args[j]? = some v → Value.okWide Try.prog W .any base t v := hval0
  have hW' := hW
  obtain ⟨p, q, hA0, hV, rfl, hfz, hnd⟩ := hW
  have hA : DataW.TrodAll enc Try.prog W 0 (fun _ => true) true Try.f5.params.toList args.toList ds p := hA0
  obtain ⟨rfl, rfl⟩ := trodVars_none hV
  rw [Try.params5] at hA hval hsz
  have hvt : Rows.rightsSetTwiceIsOnceSpec.plain.varTypes Try.prog = [] := rfl
  rw [hvt, List.append_nil, List.append_nil] at hsz
  have hdl := trodAll_length hA
  obtain ⟨us, hl, hargs, hwf⟩ := row_args K_ok K_lim (ts := [23, 25]) (by kernel_rfl) hA (fun n hn => by
    have := List.all_eq_true.1 hsz n hn
    simpa using this) (fun j t v a b => hval j t v (by simpa using a) (by simpa using b))
  have hargs := args_cn hargs
  match us, hl, ds, hdl with
  | [u0, u1], _, [d0, d1], _ =>
    have h0 := hwf 0 (by simp)
    have h1 := hwf 1 (by simp)
    have pure : Fi K 5 [cn K 20 23 u0, cn K 20 25 u1] = some (.B true) := by rw [cn_25]; exact p5 (wf_23 h0) _ (wf_25 h1)
    have hS := Fi_spec K_ok K_zok K_lok K_fok K_pok pure
    refine (row_call (w := W) (r := .B true) K_fok rfl rfl hS rfl rfl rfl (t := 4) rfl (by kernel_rfl) hargs rfl).mono fun e W' ⟨he, bel⟩ => ?_
    subst he
    refine ⟨_, rfl, _, _, _, [], _, [], hW', trodAll_mk1 (shut_bool Try.underlying4 _), args_stay laidOut bel (by kernel_rfl) hA0, rfl, bel.frame _, fun h => by cases h⟩
theorem rightsSetTwiceIsOnce_over : Rows.RightsSetTwiceIsOnceSaid :=
  OpenClaim.holds_of_wide 5 Try.f5 rfl rfl rfl rfl rfl rfl rfl ⟨rfl, rfl, rfl, rfl, rfl⟩ rfl rfl rfl rfl rfl (by kernel_rfl) Try.func5 (by kernel_rfl)
    (of_decide_eq_true (by kernel_rfl)) (by unfold Func.isWrapper; first | (rw [if_pos (by decide +kernel)]; kernel_rfl) | (rw [if_neg (by decide +kernel)]; exact ⟨rfl, rfl⟩))
    (fun os started H enc _ => lifted_5 os started H enc)
set_option maxRecDepth 100000 in
theorem lifted_6 (os : Os) (started : os.Started) (H : Type) (enc : TypeId × Value → H) :
    ReturnsInHanded {} Try.checked os 6 .any (Rows.rightsStrangersAreUnaffectedSpec.pre6 enc Try.prog Try.f6 Rows.rightsStrangersAreUnaffectedRow.domain false) (Rows.rightsStrangersAreUnaffectedSpec.post enc Try.prog Try.f6 false true false false) := by
  refine returnsInHanded_of_change_sized (C := Try.checked) own started (by kernel_rfl) Try.func6
    (ChangeSpec.witness6 (enc := enc) (C := Try.checked) false ⟨#[], #[.slice none 0 0, .slice none 0 0, .string ByteArray.empty, .string ByteArray.empty, .int .i64 0], []⟩ 8 (by kernel_rfl) (by kernel_rfl) (by kernel_rfl) (by kernel_rfl)) ?_
  intro W base args ds gs before hval0 hW hcnd hsz0 _
  have hsz : (DataW.weightsEach Try.prog (Try.f6.params.toList ++ Rows.rightsStrangersAreUnaffectedSpec.plain.varTypes Try.prog) (ds ++ gs)).all (· ≤ reachBytes) = true := hsz0
  have hval : ∀ (j : Nat) t v, Try.f6.params[j]? = some t → args[j]? = some v → Value.okWide Try.prog W .any base t v := hval0
  have hW' := hW
  obtain ⟨p, q, hA0, hV, rfl, hfz, hnd⟩ := hW
  have hA : DataW.TrodAll enc Try.prog W 0 (fun _ => true) true Try.f6.params.toList args.toList ds p := hA0
  obtain ⟨rfl, rfl⟩ := trodVars_none hV
  rw [Try.params6] at hA hval hsz
  have hvt : Rows.rightsStrangersAreUnaffectedSpec.plain.varTypes Try.prog = [] := rfl
  rw [hvt, List.append_nil, List.append_nil] at hsz
  have hdl := trodAll_length hA
  obtain ⟨us, hl, hargs, hwf⟩ := row_args K_ok K_lim (ts := [22, 23, 9, 9, 3]) (by kernel_rfl) hA (fun n hn => by
    have := List.all_eq_true.1 hsz n hn
    simpa using this) (fun j t v a b => hval j t v (by simpa using a) (by simpa using b))
  have hargs := args_cn hargs
  match us, hl, ds, hdl with
  | [u0, u1, u2, u3, u4], _, [d0, d1, d2, d3, d4], _ =>
    have h0 := hwf 0 (by simp)
    have h1 := hwf 1 (by simp)
    have h2 := hwf 2 (by simp)
    have h3 := hwf 3 (by simp)
    have h4 := hwf 4 (by simp)
    have pure : Fi K 6 [cn K 20 22 u0, cn K 20 23 u1, cn K 20 9 u2, cn K 20 9 u3, cn K 20 3 u4] = some (.B true) := by rw [cn_9, cn_9, cn_3]; exact p6 (wf_22 h0) (wf_23 h1) _ _ (wf_9 h2) (wf_9 h3) _
    have hS := Fi_spec K_ok K_zok K_lok K_fok K_pok pure
    refine (row_call (w := W) (r := .B true) K_fok rfl rfl hS rfl rfl rfl (t := 4) rfl (by kernel_rfl) hargs rfl).mono fun e W' ⟨he, bel⟩ => ?_
    subst he
    refine ⟨_, rfl, _, _, _, [], _, [], hW', trodAll_mk1 (shut_bool Try.underlying4 _), args_stay laidOut bel (by kernel_rfl) hA0, rfl, bel.frame _, fun h => by cases h⟩
theorem rightsStrangersAreUnaffected_over : Rows.RightsStrangersAreUnaffectedSaid :=
  OpenClaim.holds_of_wide 6 Try.f6 rfl rfl rfl rfl rfl rfl rfl ⟨rfl, rfl, rfl, rfl, rfl⟩ rfl rfl rfl rfl rfl (by kernel_rfl) Try.func6 (by kernel_rfl)
    (of_decide_eq_true (by kernel_rfl)) (by unfold Func.isWrapper; first | (rw [if_pos (by decide +kernel)]; kernel_rfl) | (rw [if_neg (by decide +kernel)]; exact ⟨rfl, rfl⟩))
    (fun os started H enc _ => lifted_6 os started H enc)
end Go.Proofs.Ytegmhhojpngklaa
