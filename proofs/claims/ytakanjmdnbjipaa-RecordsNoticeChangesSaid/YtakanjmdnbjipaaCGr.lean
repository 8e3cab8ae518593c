/- slices.Grow of a nil slice: the contract. -/
import Derived.Test.YtakanjmdnbjipaaCTb
import Derived.WalkKit
import Derived.Lib.Walk
import Derived.Lib.AppendZeros
import Derived.Lib.SliceRun
import Derived.Lib.Hide
set_option linter.unusedVariables false
set_option linter.unusedSimpArgs false
set_option linter.unusedVariables false
set_option linter.unusedSimpArgs false
namespace Go.Proofs.Ytakanjmdnbjipaa.Grow
open Go.Ab Go.RowKit Go.Lib
theorem te_s : K.te 22 = some (.sl 5) := by kernel_rfl
theorem te_i : K.te 3 = some (.int .i64) := by kernel_rfl
theorem ze : zeroT K 20 5 = true := by kernel_rfl

set_option maxHeartbeats 1000000 in
set_option maxRecDepth 100000 in
theorem zero (w : World) : Calls Try.prog 26 #[.slice none 0 0, .int .i64 0] w fun e w' => e = .returned (.slice none 0 0) ∧ w' = w := by
  go_enter Try.func26, Try.ntmps26
  go_wp2
  go_ret
  exact ⟨rfl, rfl⟩
set_option maxHeartbeats 1000000 in
set_option maxRecDepth 100000 in
theorem some_ (w : World) (n : Nat) (h0 : 0 < n) (hn : n ≤ K.lim 5) : Calls Try.prog 26 #[.slice none 0 0, .int .i64 n] w fun e w' => ∃ G cur, e = .returned (.slice (some ⟨w.heap.size, 0, none⟩) 0 G) ∧ w' = w.drew.alloc (.cells cur 5) ∧ G ≤ maxLen ∧ cur.size = G * K.sz 5 := by
  obtain ⟨inf, z, a1, a2, a3, a4, a5, _⟩ := zero_size K_ok K_zok ze
  obtain ⟨l1, l2⟩ := K_lok 5 inf a1
  have hmax : n ≤ maxLen := Nat.le_trans hn l1
  have hb : n * inf.bytes ≤ 140737488355328 := Nat.le_trans (Nat.mul_le_mul_right _ hn) l2
  have hm2 : n ≤ 9223372036854775807 := by simpa [maxLen] using hmax
  have hu := K_ok.und 22 _ te_s
  have hui := K_ok.und 3 _ te_i
  simp only at hu hui
  have hge := grownCap_ge w n 0 5
  have hcm := grownCap_le_maxLen w n 0 5 hmax
  have hr : ∀ ty, (Builtin.append_ #[22, 3] ty #[.slice none 0 0, .int .i64 (n : Int)]).run Try.prog w = _ := fun ty => Lib.run_append_nil_zeros w 22 3 ty 5 inf z .i64 .i64 hu hui a1 a2 n h0 (by omega) (by omega) (by omega)
  have hsz : (Builtin.zeroCells z.cells n ++ Builtin.zeroCells z.cells (grownCap w n 0 5 - n)).size = grownCap w n 0 5 * K.sz 5 := by
    rw [Array.size_append, size_zeroCells, size_zeroCells, a4, ← Nat.add_mul]
    congr 1; omega
  generalize grownCap w n 0 5 = G at *
  generalize (Builtin.zeroCells z.cells n ++ Builtin.zeroCells z.cells (G - n)) = cur at *
  have HG := Lib.hid hcm
  have HS := Lib.hid hsz
  have hG63 : G ≤ 9223372036854775807 := by simpa [maxLen] using hcm
  have hnG : n ≤ G := hge
  clear hcm hsz hmax hb hui hu a1 a2 a3 a4 a5 l1 l2 hn hge
  go_enter Try.func26, Try.ntmps26
  go_wp2_with (at_builtin; refine Lib.wpList_append_run _ rfl _ _ _ _ rfl _ _ rfl rfl _ _ (hr _) ?_)
  go_ret
  exact ⟨G, cur, rfl, rfl, HG.out, HS.out⟩

theorem spec {us : List U} {r : U} (h : growU (K.lim 5) us = some r) : Ab.Spec Try.prog K 26 us r := by
  match us, h with
  | [s, n], h =>
    simp only [growU] at h
    obtain ⟨hc, h⟩ := cond_some h
    simp only [Bool.and_eq_true, decide_eq_true_eq] at hc
    obtain ⟨⟨hs, hn0⟩, hlim⟩ := hc
    have hlim := Nat.le_of_ble_eq_true hlim
    simp only [Option.some.injEq] at h
    subst h
    refine ⟨_, rfl, fun f vs hf _hkp hargs => .inl ?_⟩
    obtain ⟨us1, us2, vs1, vs2, e1, e2, hA, hC⟩ := hargs
    match us2, vs2, hC with
    | [], [], _ =>
      rw [List.append_nil] at e1 e2
      subst e1; subst e2
      match vs, hA with
      | [x, y], hA =>
        obtain ⟨⟨cs1, t1, hx⟩, ⟨cs2, t2, hy⟩, _⟩ := hA
        have hxv : x = .slice none 0 0 := by
          have hx : Rep K f.H 22 cs1 s := hx
          have t1 : IsVal K 22 x cs1 := t1
          obtain ⟨v, hv, hrs⟩ := hx.repSl te_s
          unfold IsVal at t1
          rw [te_s] at t1
          have t1 : cs1 = [x] := t1
          rw [hv] at t1
          simp only [List.cons.injEq, and_true] at t1
          subst t1
          rcases hrs with ⟨_, _, hv⟩ | ⟨_, _, _, _, hf, _⟩
          · exact hv
          · rw [hs] at hf; cases hf
        have hyv : y = .int .i64 n.toI := by
          have hy : Rep K f.H 3 cs2 n := hy
          have t2 : IsVal K 3 y cs2 := t2
          cases hy with
          | int h =>
            rw [te_i] at h
            cases h
            have : ([.int .i64 n.toI] : List Value) = [y] := t2
            simpa using this.symm
          | _ => simp_all [te_i]
        subst hxv hyv
        obtain ⟨fn, f1, f2, _, _, f5⟩ := K_fns.mem (assoc_mem (show assoc fns 26 = some _ from rfl))
        refine ⟨by simp [callFunc, f1, f2, f5], ?_⟩
        obtain ⟨ty, hty, _⟩ := K_ok.elem 22 5 te_s
        by_cases hz : n.toI = 0
        · have hd : (bif decide (n.toI = 0) then U.nil else U.ofL false []) = U.nil := by simp [hz]
          rw [hd, hz]
          refine (zero f.w0).mono fun e w' ⟨he, hw⟩ => ?_
          subst he hw
          refine ⟨⟨rfl, rfl, rfl, Nat.le_refl _, fun _ _ _ => rfl⟩, fun _ => False, [.slice none 0 0], ⟨⟨5, te_s, ?_, fun _ => rfl, fun b hb => by simp [blkOf] at hb⟩, trivial⟩, rfl⟩
          show OwnIn K _ f.w0 5 U.nil.isNil U.nil.toL _
          exact ⟨[], ⟨by simp [U.toL, U.nil, U.len], .inl ⟨rfl, rfl⟩⟩, fun i hi => by simp [U.toL, U.nil, U.len] at hi, by simp [U.nil, U.isNil, U.toL, U.len], ty, hty⟩
        · have hp : 0 < n.toI.toNat := by omega
          have hnn : n.toI = ((n.toI.toNat : Nat) : Int) := by omega
          have hcall := some_ f.w0 n.toI.toNat hp hlim
          rw [← hnn] at hcall
          have hd : (bif decide (n.toI = 0) then U.nil else U.ofL false []) = U.ofL false [] := by simp [hz]
          rw [hd]
          refine hcall.mono fun e w' ⟨G, cur, he, hw, hG, hcur⟩ => ?_
          subst he hw
          have hown := World.ownsRow_made (e := 5) (size := K.sz 5) (base := 0) f.w0.drew cur G (Nat.zero_le _) hG hcur
          refine ⟨⟨rfl, rfl, rfl, by rw [World.size_alloc]; exact Nat.le_succ _, fun k hk _ => Below.heap_alloc f.w0.drew (.cells cur 5) k hk⟩, fun b => b = f.w0.heap.size, [.slice (some ⟨f.w0.heap.size, 0, none⟩) 0 G], ⟨⟨5, te_s, ?_, fun h => ?_, fun b hb => ?_⟩, trivial⟩, rfl⟩
          · show OwnIn K _ (f.w0.drew.alloc (.cells cur 5)) 5 (U.ofL false []).isNil (U.ofL false []).toL _
            exact ⟨[], hown, fun i hi => by simp [U.toL, U.ofL, U.len] at hi, by simp [U.ofL, U.isNil], ty, hty⟩
          · have h : (U.ofL false []).isNil = true := h
            cases h
          · simp only [blkOf, Option.some.injEq] at hb
            exact ⟨hb.symm, .inl (by omega), by simp [ownVs]⟩
  | [], h => simp [growU] at h
  | [_], h => simp [growU] at h
  | _ :: _ :: _ :: _, h => simp [growU] at h
end Go.Proofs.Ytakanjmdnbjipaa.Grow
