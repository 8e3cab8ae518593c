/- The laws, where what they read is of bulk at most 1048576, out of what their functions yield; and their cards. -/
import Derived.Test.YtnahhhaicalmcaaDoorCards
import Derived.Test.YtnahhhaicalmcaaDoorTie
import Derived.Test.YtnahhhaicalmcaaDoorAbLaw
import Derived.Test.YtnahhhaicalmcaaDoorAbUpto
import Derived.Test.YtnahhhaicalmcaaDoorCLb
import Derived.Test.YtnahhhaicalmcaaDoorCPf
import Derived.Deep.DeepHandedRow
import Derived.Lib.LaidTab
set_option linter.unusedVariables false
set_option linter.unusedSimpArgs false
namespace Go.Proofs.YtnahhhaicalmcaaDoor
open Go.Ab Go.ChangeShapes Go.WideShapes Go.ChangeAt Go.RowKit
set_option linter.unusedVariables false
set_option linter.unusedSimpArgs false

theorem own : ownKnob Tryd.prog.godebug = none := by kernel_rfl
theorem laidOut : laidOutB Tryd.prog = true := by kernel_rfl
theorem bulk_one {H : Type} (d : DataW H) : 1 ≤ Rows.uptoBulk d := by
  cases d with
  | lit l => cases l <;> simp [Rows.uptoBulk]
  | _ => simp [Rows.uptoBulk]
theorem bulk_mem {H : Type} : ∀ {l : List (DataW H)} {d : DataW H}, d ∈ l → Rows.uptoBulk d ≤ Rows.uptoBulkAll l
  | x :: r, d, h => by
    rw [Rows.uptoBulkAll]
    rcases List.mem_cons.1 h with e | e
    · subst e; omega
    · have := bulk_mem e; omega
theorem bulk_len {H : Type} : ∀ l : List (DataW H), l.length ≤ Rows.uptoBulkAll l
  | [] => Nat.zero_le _
  | x :: r => by
    have h1 := bulk_len r
    have h2 := bulk_one x
    rw [Rows.uptoBulkAll, List.length_cons]; omega
theorem bulk_is {H : Type} : Bulk (H := H) Rows.uptoBulk where
  str b := by rw [Rows.uptoBulk]; omega
  len es sp := by
    have := bulk_len es
    rw [Rows.uptoBulk]; omega
  mem es sp x h := by
    have := bulk_mem h
    rw [Rows.uptoBulk]; omega
  agg ps x h := by
    have := bulk_mem h
    rw [Rows.uptoBulk]; omega
theorem bulk_all {H : Type} {l r : List (DataW H)} (h : Rows.uptoSmall H (l ++ r) = true) : ∀ d ∈ l, Rows.uptoBulk d ≤ 1048576 := fun d hd =>
  Nat.le_trans (bulk_mem (List.mem_append_left r hd)) (of_decide_eq_true h)
theorem Is.range {α : Type} (f : α → U) (g : Nat → α) (b : Bool) (n : Nat) : Is f (U.ofL b ((List.range n).map fun i => f (g i))) ((List.range n).map g) := by
  have := Is.mk' f b ((List.range n).map g)
  rw [List.map_map] at this
  exact this
theorem cn_int {t : Nat} {k : IntKind} (h : K.te t = some (.int k)) (u : U) : cn K 20 t u = .I u.toI := by
  unfold cn; rw [h]
theorem cn_bool {t : Nat} (h : K.te t = some .bool) (u : U) : cn K 20 t u = .B u.toB := by
  unfold cn; rw [h]
theorem cn_str {t : Nat} (h : K.te t = some .str) (u : U) : cn K 20 t u = .S u.toS := by
  unfold cn; rw [h]
/-- a world for the witness: the settled one, and the listed variables hold what their text lays -/
noncomputable def laidWorld (os : Os) : World :=
  { World.holding Tryd.prog os ⟨#[], #[], []⟩ with heap := (((World.holding Tryd.prog os ⟨#[], #[], []⟩).heap.modify 1 fun
    | .cells _ t frozen => .cells ((Go.Pinned.utf8FirstZ.map fun (n : Nat) => Value.int .u8 n).toArray) t frozen
    | o => o).modify 2 fun
    | .cells _ t frozen => .cells (#[.int .u8 128, .int .u8 191, .int .u8 160, .int .u8 191, .int .u8 128, .int .u8 159, .int .u8 144, .int .u8 191, .int .u8 128, .int .u8 143, .int .u8 0, .int .u8 0, .int .u8 0, .int .u8 0, .int .u8 0, .int .u8 0, .int .u8 0, .int .u8 0, .int .u8 0, .int .u8 0, .int .u8 0, .int .u8 0, .int .u8 0, .int .u8 0, .int .u8 0, .int .u8 0, .int .u8 0, .int .u8 0, .int .u8 0, .int .u8 0, .int .u8 0, .int .u8 0]) t frozen
    | o => o) }

theorem cn_22 (u : U) : cn K 20 22 u = .ofL u.isNil ((List.range u.len).map fun i => .S (u.get i).toS) := by kernel_rfl
theorem sl_22 {u : U} (h : WfB K 1048576 22 u) : ∃ l : List Bs, Sl (cn K 20 22 u) l ∧ l.length < 8796093022208 ∧ ∀ t ∈ l, t.length ≤ 1048576 := by
  obtain ⟨h1, h2, h3⟩ := wfB_sl (t := 22) (e := 9) (by kernel_rfl) h
  refine ⟨(List.range u.len).map fun i => (u.get i).toS, ⟨?_, fun hn => ?_⟩, ?_, fun t ht => ?_⟩
  · rw [cn_22]
    exact Is.range U.S (fun i => (u.get i).toS) _ _
  · rw [cn_22, isNil_ofL'] at hn
    rw [h1 hn]; rfl
  · rw [List.length_map, List.length_range]; omega
  · obtain ⟨i, hi, rfl⟩ := List.mem_map.1 ht
    exact wfB_str te_9 (h3 i (List.mem_range.1 hi))

set_option maxRecDepth 100000 in
theorem contract_3 (H : Type) (enc : TypeId × Value → H) (W : World) (base : Nat) (args : Array Value) (ds gs : List (DataW H)) (before : List MemPlace)
    (hval0 : ∀ (j : Nat) t v, Tryd.f3.params[j]? = some t → args[j]? = some v → Value.okWide Tryd.prog W .any base t v)
    (hW : DataW.Whole enc Tryd.prog Tryd.f3.params.toList Rows.foldersStayValidSpec.vars false W args.toList ds gs before) (hk : Rows.uptoSmall H (ds ++ gs) = true) :
    Calls Tryd.prog 3 args W fun e W' => ∃ v, e = .returned v ∧ Rows.foldersStayValidSpec.post enc Tryd.prog Tryd.f3 false true false false W args v W' := by
  have hval : ∀ (j : Nat) t v, Tryd.f3.params[j]? = some t → args[j]? = some v → Value.okWide Tryd.prog W .any base t v := hval0
  have hW' := hW
  obtain ⟨p, q, hA0, hV, rfl, hfz, hnd⟩ := hW
  have hA : DataW.TrodAll enc Tryd.prog W 0 (fun _ => true) true Tryd.f3.params.toList args.toList ds p := hA0
  obtain ⟨rfl, rfl⟩ := trodVars_none hV
  rw [Tryd.params3] at hA hval
  have hdl := trodAll_length hA
  obtain ⟨us, hl, hargs, hwf⟩ := row_argsB K_ok bulk_is (ts := [22, 9, 9]) (by kernel_rfl) hA (bulk_all hk) (fun j t v a b => hval j t v (by simpa using a) (by simpa using b))
  have hargs := args_cn hargs
  match us, hl, ds, hdl with
  | [u0, u1, u2], _, [d0, d1, d2], _ =>
    have h0 := hwf 0 (by simp)
    have h1 := hwf 1 (by simp)
    have h2 := hwf 2 (by simp)
    have pure : Fi K 3 [cn K 20 22 u0, cn K 20 9 u1, cn K 20 9 u2] = some (.B true) := by obtain ⟨l, a, b, c⟩ := sl_22 h0; rw [cn_str te_9, cn_str te_9]; exact law3 a b c (wfB_str te_9 h1) (wfB_str te_9 h2)
    have hS := Fi_spec K_ok K_zok K_lok K_fok K_pok pure
    refine (row_call (w := W) (r := .B true) K_fok rfl rfl hS rfl rfl rfl (t := 4) rfl (by kernel_rfl) hargs rfl).mono fun e W' ⟨he, bel⟩ => ?_
    subst he
    refine ⟨_, rfl, _, _, _, [], _, [], hW', trodAll_mk1 (shut_bool Tryd.underlying4 _), args_stay laidOut bel (by kernel_rfl) hA0, rfl, bel.frame _, fun h => by cases h⟩
theorem reads_3 (os : Os) {H : Type} (enc : TypeId × Value → H) : ∃ places, DataW.whole enc Tryd.prog ((laidWorld os).forCall (fun _ _ => 0) ⟨#[], #[.slice none 0 0, .string ⟨#[]⟩, .string ⟨#[]⟩], []⟩).memory Tryd.f3.params.toList Rows.foldersStayValidSpec.vars false (#[.slice none 0 0, .string ⟨#[]⟩, .string ⟨#[]⟩] : Array Value).toList 8 = some ([.nil, .lit (.string []), .lit (.string [])], [], places) :=
  ⟨[], by kernel_rfl⟩
theorem laid_met_3 (os : Os) : laidMet Tryd.prog Rows.foldersStayValidUptoRow.laid ((laidWorld os).forCall (fun _ _ => 0) ⟨#[], #[.slice none 0 0, .string ⟨#[]⟩, .string ⟨#[]⟩], []⟩).memory :=
  laidMet_of_run' 8 (by kernel_rfl) (by kernel_rfl)
set_option maxRecDepth 100000 in
theorem lifted_3 (os : Os) (started : os.Started) (H : Type) (enc : TypeId × Value → H) (F : Stop.Interp) :
    ReturnsInHanded {} Tryd.checked os 3 .any ((Rows.OpenSpec.upto Rows.foldersStayValidSpec).preRow enc Tryd.prog Tryd.f3 Rows.foldersStayValidUptoRow.domain false Rows.foldersStayValidUptoRow.laid) (((Rows.OpenSpec.upto Rows.foldersStayValidSpec).at F).post enc Tryd.prog Tryd.f3 false true false false) := by
  obtain ⟨places, hx⟩ := reads_3 os enc
  refine returnsInHanded_of_row (C := Tryd.checked) (s := Rows.OpenSpec.upto Rows.foldersStayValidSpec) own started (by kernel_rfl) Tryd.func3
    (witness_row_at (enc := enc) (C := Tryd.checked) false (laidWorld os) #[.slice none 0 0, .string ⟨#[]⟩, .string ⟨#[]⟩] rfl (by kernel_rfl) (by kernel_rfl) (by kernel_rfl)
      (OpenSpec.preRow_of_cond 8 hx (by kernel_rfl) (fun k hk => by cases hk; kernel_rfl) (by kernel_rfl) (laid_met_3 os))) ?_
  intro W base args ds gs before hval hW _ hcond _ hL _ _
  exact contract_3 H enc W base args ds gs before hval hW (hcond _ rfl)
theorem foldersStayValid_upto : Rows.FoldersStayValidUptoSaid :=
  OpenClaim.holds_of_cond 3 Tryd.f3 rfl rfl rfl rfl rfl rfl rfl ⟨rfl, rfl, rfl, rfl, rfl⟩ rfl rfl rfl rfl rfl (by kernel_rfl) Tryd.func3 (by kernel_rfl)
    (of_decide_eq_true (by kernel_rfl)) (by unfold Func.isWrapper; first | (rw [if_pos (by decide +kernel)]; kernel_rfl) | (rw [if_neg (by decide +kernel)]; exact ⟨rfl, rfl⟩))
    (fun os started H enc _ F => by rw [OpenClaim.pre_eq_preRow]; exact lifted_3 os started H enc F)
theorem plain_3 (f : FuncId) (fn : Func) (hf : Tryd.pinned.checked.prog.funcNamed "posthouse/posthouselaw7.FoldersStayValid" = some f) (hfn : Tryd.pinned.checked.prog.funcs[f]? = some fn) :
    false = Tryd.pinned.checked.prog.looks [] ∧ ∀ (j : Nat) t, fn.params[j]? = some t → Tryd.pinned.checked.prog.wantsStandIn t = false := by
  obtain rfl : f = 3 := Option.some.inj ((show Tryd.prog.funcNamed "posthouse/posthouselaw7.FoldersStayValid" = some 3 by kernel_rfl).symm.trans hf) |>.symm
  obtain rfl : fn = Tryd.f3 := (Option.some.inj (Tryd.func3.symm.trans hfn)).symm
  refine ⟨by kernel_rfl, fun j t ht => ?_⟩
  rw [Tryd.params3] at ht
  have hm : t ∈ ([22, 9, 9] : List Nat) := by simpa using Array.mem_of_getElem? ht
  have ha : ([22, 9, 9] : List Nat).all (fun t => !Tryd.prog.wantsStandIn t) = true := by kernel_rfl
  show Tryd.prog.wantsStandIn t = false
  have := List.all_eq_true.1 ha t hm
  simpa using this
theorem foldersStayValid_card : Rows.FoldersStayValidUptoCardSaid :=
  Claim7.holds_tied_plain_at .later [] _ _ _ _ foldersStayValid_upto (fun _ h => by cases h) (by kernel_rfl) (fun _ h => by cases h) foldersStayValidUpto_row_tie rfl ⟨rfl, rfl⟩ (by kernel_rfl) rfl plain_3 (by kernel_rfl)
set_option maxRecDepth 100000 in
theorem contract_4 (H : Type) (enc : TypeId × Value → H) (W : World) (base : Nat) (args : Array Value) (ds gs : List (DataW H)) (before : List MemPlace)
    (hval0 : ∀ (j : Nat) t v, Tryd.f4.params[j]? = some t → args[j]? = some v → Value.okWide Tryd.prog W .any base t v)
    (hW : DataW.Whole enc Tryd.prog Tryd.f4.params.toList Rows.foldersRenameBackYieldsAllSpec.vars false W args.toList ds gs before) (hk : Rows.uptoSmall H (ds ++ gs) = true) :
    Calls Tryd.prog 4 args W fun e W' => ∃ v, e = .returned v ∧ Rows.foldersRenameBackYieldsAllSpec.post enc Tryd.prog Tryd.f4 false true false false W args v W' := by
  have hval : ∀ (j : Nat) t v, Tryd.f4.params[j]? = some t → args[j]? = some v → Value.okWide Tryd.prog W .any base t v := hval0
  have hW' := hW
  obtain ⟨p, q, hA0, hV, rfl, hfz, hnd⟩ := hW
  have hA : DataW.TrodAll enc Tryd.prog W 0 (fun _ => true) true Tryd.f4.params.toList args.toList ds p := hA0
  obtain ⟨rfl, rfl⟩ := trodVars_none hV
  rw [Tryd.params4] at hA hval
  have hdl := trodAll_length hA
  obtain ⟨us, hl, hargs, hwf⟩ := row_argsB K_ok bulk_is (ts := [22, 9, 9]) (by kernel_rfl) hA (bulk_all hk) (fun j t v a b => hval j t v (by simpa using a) (by simpa using b))
  have hargs := args_cn hargs
  match us, hl, ds, hdl with
  | [u0, u1, u2], _, [d0, d1, d2], _ =>
    have h0 := hwf 0 (by simp)
    have h1 := hwf 1 (by simp)
    have h2 := hwf 2 (by simp)
    have pure : Fi K 4 [cn K 20 22 u0, cn K 20 9 u1, cn K 20 9 u2] = some (.B true) := by obtain ⟨l, a, b, c⟩ := sl_22 h0; rw [cn_str te_9, cn_str te_9]; exact law4 a b c (wfB_str te_9 h1) (wfB_str te_9 h2)
    have hS := Fi_spec K_ok K_zok K_lok K_fok K_pok pure
    refine (row_call (w := W) (r := .B true) K_fok rfl rfl hS rfl rfl rfl (t := 4) rfl (by kernel_rfl) hargs rfl).mono fun e W' ⟨he, bel⟩ => ?_
    subst he
    refine ⟨_, rfl, _, _, _, [], _, [], hW', trodAll_mk1 (shut_bool Tryd.underlying4 _), args_stay laidOut bel (by kernel_rfl) hA0, rfl, bel.frame _, fun h => by cases h⟩
theorem reads_4 (os : Os) {H : Type} (enc : TypeId × Value → H) : ∃ places, DataW.whole enc Tryd.prog ((laidWorld os).forCall (fun _ _ => 0) ⟨#[], #[.slice none 0 0, .string ⟨#[]⟩, .string ⟨#[]⟩], []⟩).memory Tryd.f4.params.toList Rows.foldersRenameBackYieldsAllSpec.vars false (#[.slice none 0 0, .string ⟨#[]⟩, .string ⟨#[]⟩] : Array Value).toList 8 = some ([.nil, .lit (.string []), .lit (.string [])], [], places) :=
  ⟨[], by kernel_rfl⟩
theorem laid_met_4 (os : Os) : laidMet Tryd.prog Rows.foldersRenameBackYieldsAllUptoRow.laid ((laidWorld os).forCall (fun _ _ => 0) ⟨#[], #[.slice none 0 0, .string ⟨#[]⟩, .string ⟨#[]⟩], []⟩).memory :=
  laidMet_of_run' 8 (by kernel_rfl) (by kernel_rfl)
set_option maxRecDepth 100000 in
theorem lifted_4 (os : Os) (started : os.Started) (H : Type) (enc : TypeId × Value → H) (F : Stop.Interp) :
    ReturnsInHanded {} Tryd.checked os 4 .any ((Rows.OpenSpec.upto Rows.foldersRenameBackYieldsAllSpec).preRow enc Tryd.prog Tryd.f4 Rows.foldersRenameBackYieldsAllUptoRow.domain false Rows.foldersRenameBackYieldsAllUptoRow.laid) (((Rows.OpenSpec.upto Rows.foldersRenameBackYieldsAllSpec).at F).post enc Tryd.prog Tryd.f4 false true false false) := by
  obtain ⟨places, hx⟩ := reads_4 os enc
  refine returnsInHanded_of_row (C := Tryd.checked) (s := Rows.OpenSpec.upto Rows.foldersRenameBackYieldsAllSpec) own started (by kernel_rfl) Tryd.func4
    (witness_row_at (enc := enc) (C := Tryd.checked) false (laidWorld os) #[.slice none 0 0, .string ⟨#[]⟩, .string ⟨#[]⟩] rfl (by kernel_rfl) (by kernel_rfl) (by kernel_rfl)
      (OpenSpec.preRow_of_cond 8 hx (by kernel_rfl) (fun k hk => by cases hk; kernel_rfl) (by kernel_rfl) (laid_met_4 os))) ?_
  intro W base args ds gs before hval hW _ hcond _ hL _ _
  exact contract_4 H enc W base args ds gs before hval hW (hcond _ rfl)
theorem foldersRenameBackYieldsAll_upto : Rows.FoldersRenameBackYieldsAllUptoSaid :=
  OpenClaim.holds_of_cond 4 Tryd.f4 rfl rfl rfl rfl rfl rfl rfl ⟨rfl, rfl, rfl, rfl, rfl⟩ rfl rfl rfl rfl rfl (by kernel_rfl) Tryd.func4 (by kernel_rfl)
    (of_decide_eq_true (by kernel_rfl)) (by unfold Func.isWrapper; first | (rw [if_pos (by decide +kernel)]; kernel_rfl) | (rw [if_neg (by decide +kernel)]; exact ⟨rfl, rfl⟩))
    (fun os started H enc _ F => by rw [OpenClaim.pre_eq_preRow]; exact lifted_4 os started H enc F)
theorem plain_4 (f : FuncId) (fn : Func) (hf : Tryd.pinned.checked.prog.funcNamed "posthouse/posthouselaw7.FoldersRenameBackYieldsAll" = some f) (hfn : Tryd.pinned.checked.prog.funcs[f]? = some fn) :
    false = Tryd.pinned.checked.prog.looks [] ∧ ∀ (j : Nat) t, fn.params[j]? = some t → Tryd.pinned.checked.prog.wantsStandIn t = false := by
  obtain rfl : f = 4 := Option.some.inj ((show Tryd.prog.funcNamed "posthouse/posthouselaw7.FoldersRenameBackYieldsAll" = some 4 by kernel_rfl).symm.trans hf) |>.symm
  obtain rfl : fn = Tryd.f4 := (Option.some.inj (Tryd.func4.symm.trans hfn)).symm
  refine ⟨by kernel_rfl, fun j t ht => ?_⟩
  rw [Tryd.params4] at ht
  have hm : t ∈ ([22, 9, 9] : List Nat) := by simpa using Array.mem_of_getElem? ht
  have ha : ([22, 9, 9] : List Nat).all (fun t => !Tryd.prog.wantsStandIn t) = true := by kernel_rfl
  show Tryd.prog.wantsStandIn t = false
  have := List.all_eq_true.1 ha t hm
  simpa using this
theorem foldersRenameBackYieldsAll_card : Rows.FoldersRenameBackYieldsAllUptoCardSaid :=
  Claim7.holds_tied_plain_at .later [] _ _ _ _ foldersRenameBackYieldsAll_upto (fun _ h => by cases h) (by kernel_rfl) (fun _ h => by cases h) foldersRenameBackYieldsAllUpto_row_tie rfl ⟨rfl, rfl⟩ (by kernel_rfl) rfl plain_4 (by kernel_rfl)
set_option maxRecDepth 100000 in
theorem contract_5 (H : Type) (enc : TypeId × Value → H) (W : World) (base : Nat) (args : Array Value) (ds gs : List (DataW H)) (before : List MemPlace)
    (hval0 : ∀ (j : Nat) t v, Tryd.f5.params[j]? = some t → args[j]? = some v → Value.okWide Tryd.prog W .any base t v)
    (hW : DataW.Whole enc Tryd.prog Tryd.f5.params.toList Rows.foldersDeleteUndoesCreateSpec.vars false W args.toList ds gs before) (hk : Rows.uptoSmall H (ds ++ gs) = true) :
    Calls Tryd.prog 5 args W fun e W' => ∃ v, e = .returned v ∧ Rows.foldersDeleteUndoesCreateSpec.post enc Tryd.prog Tryd.f5 false true false false W args v W' := by
  have hval : ∀ (j : Nat) t v, Tryd.f5.params[j]? = some t → args[j]? = some v → Value.okWide Tryd.prog W .any base t v := hval0
  have hW' := hW
  obtain ⟨p, q, hA0, hV, rfl, hfz, hnd⟩ := hW
  have hA : DataW.TrodAll enc Tryd.prog W 0 (fun _ => true) true Tryd.f5.params.toList args.toList ds p := hA0
  obtain ⟨rfl, rfl⟩ := trodVars_none hV
  rw [Tryd.params5] at hA hval
  have hdl := trodAll_length hA
  obtain ⟨us, hl, hargs, hwf⟩ := row_argsB K_ok bulk_is (ts := [22, 9]) (by kernel_rfl) hA (bulk_all hk) (fun j t v a b => hval j t v (by simpa using a) (by simpa using b))
  have hargs := args_cn hargs
  match us, hl, ds, hdl with
  | [u0, u1], _, [d0, d1], _ =>
    have h0 := hwf 0 (by simp)
    have h1 := hwf 1 (by simp)
    have pure : Fi K 5 [cn K 20 22 u0, cn K 20 9 u1] = some (.B true) := by obtain ⟨l, a, b, c⟩ := sl_22 h0; rw [cn_str te_9]; exact law5 a b c (wfB_str te_9 h1)
    have hS := Fi_spec K_ok K_zok K_lok K_fok K_pok pure
    refine (row_call (w := W) (r := .B true) K_fok rfl rfl hS rfl rfl rfl (t := 4) rfl (by kernel_rfl) hargs rfl).mono fun e W' ⟨he, bel⟩ => ?_
    subst he
    refine ⟨_, rfl, _, _, _, [], _, [], hW', trodAll_mk1 (shut_bool Tryd.underlying4 _), args_stay laidOut bel (by kernel_rfl) hA0, rfl, bel.frame _, fun h => by cases h⟩
theorem reads_5 (os : Os) {H : Type} (enc : TypeId × Value → H) : ∃ places, DataW.whole enc Tryd.prog ((laidWorld os).forCall (fun _ _ => 0) ⟨#[], #[.slice none 0 0, .string ⟨#[]⟩], []⟩).memory Tryd.f5.params.toList Rows.foldersDeleteUndoesCreateSpec.vars false (#[.slice none 0 0, .string ⟨#[]⟩] : Array Value).toList 8 = some ([.nil, .lit (.string [])], [], places) :=
  ⟨[], by kernel_rfl⟩
theorem laid_met_5 (os : Os) : laidMet Tryd.prog Rows.foldersDeleteUndoesCreateUptoRow.laid ((laidWorld os).forCall (fun _ _ => 0) ⟨#[], #[.slice none 0 0, .string ⟨#[]⟩], []⟩).memory :=
  laidMet_of_run' 8 (by kernel_rfl) (by kernel_rfl)
set_option maxRecDepth 100000 in
theorem lifted_5 (os : Os) (started : os.Started) (H : Type) (enc : TypeId × Value → H) (F : Stop.Interp) :
    ReturnsInHanded {} Tryd.checked os 5 .any ((Rows.OpenSpec.upto Rows.foldersDeleteUndoesCreateSpec).preRow enc Tryd.prog Tryd.f5 Rows.foldersDeleteUndoesCreateUptoRow.domain false Rows.foldersDeleteUndoesCreateUptoRow.laid) (((Rows.OpenSpec.upto Rows.foldersDeleteUndoesCreateSpec).at F).post enc Tryd.prog Tryd.f5 false true false false) := by
  obtain ⟨places, hx⟩ := reads_5 os enc
  refine returnsInHanded_of_row (C := Tryd.checked) (s := Rows.OpenSpec.upto Rows.foldersDeleteUndoesCreateSpec) own started (by kernel_rfl) Tryd.func5
    (witness_row_at (enc := enc) (C := Tryd.checked) false (laidWorld os) #[.slice none 0 0, .string ⟨#[]⟩] rfl (by kernel_rfl) (by kernel_rfl) (by kernel_rfl)
      (OpenSpec.preRow_of_cond 8 hx (by kernel_rfl) (fun k hk => by cases hk; kernel_rfl) (by kernel_rfl) (laid_met_5 os))) ?_
  intro W base args ds gs before hval hW _ hcond _ hL _ _
  exact contract_5 H enc W base args ds gs before hval hW (hcond _ rfl)
theorem foldersDeleteUndoesCreate_upto : Rows.FoldersDeleteUndoesCreateUptoSaid :=
  OpenClaim.holds_of_cond 5 Tryd.f5 rfl rfl rfl rfl rfl rfl rfl ⟨rfl, rfl, rfl, rfl, rfl⟩ rfl rfl rfl rfl rfl (by kernel_rfl) Tryd.func5 (by kernel_rfl)
    (of_decide_eq_true (by kernel_rfl)) (by unfold Func.isWrapper; first | (rw [if_pos (by decide +kernel)]; kernel_rfl) | (rw [if_neg (by decide +kernel)]; exact ⟨rfl, rfl⟩))
    (fun os started H enc _ F => by rw [OpenClaim.pre_eq_preRow]; exact lifted_5 os started H enc F)
theorem plain_5 (f : FuncId) (fn : Func) (hf : Tryd.pinned.checked.prog.funcNamed "posthouse/posthouselaw7.FoldersDeleteUndoesCreate" = some f) (hfn : Tryd.pinned.checked.prog.funcs[f]? = some fn) :
    false = Tryd.pinned.checked.prog.looks [] ∧ ∀ (j : Nat) t, fn.params[j]? = some t → Tryd.pinned.checked.prog.wantsStandIn t = false := by
  obtain rfl : f = 5 := Option.some.inj ((show Tryd.prog.funcNamed "posthouse/posthouselaw7.FoldersDeleteUndoesCreate" = some 5 by kernel_rfl).symm.trans hf) |>.symm
  obtain rfl : fn = Tryd.f5 := (Option.some.inj (Tryd.func5.symm.trans hfn)).symm
  refine ⟨by kernel_rfl, fun j t ht => ?_⟩
  rw [Tryd.params5] at ht
  have hm : t ∈ ([22, 9] : List Nat) := by simpa using Array.mem_of_getElem? ht
  have ha : ([22, 9] : List Nat).all (fun t => !Tryd.prog.wantsStandIn t) = true := by kernel_rfl
  show Tryd.prog.wantsStandIn t = false
  have := List.all_eq_true.1 ha t hm
  simpa using this
theorem foldersDeleteUndoesCreate_card : Rows.FoldersDeleteUndoesCreateUptoCardSaid :=
  Claim7.holds_tied_plain_at .later [] _ _ _ _ foldersDeleteUndoesCreate_upto (fun _ h => by cases h) (by kernel_rfl) (fun _ h => by cases h) foldersDeleteUndoesCreateUpto_row_tie rfl ⟨rfl, rfl⟩ (by kernel_rfl) rfl plain_5 (by kernel_rfl)
end Go.Proofs.YtnahhhaicalmcaaDoor
