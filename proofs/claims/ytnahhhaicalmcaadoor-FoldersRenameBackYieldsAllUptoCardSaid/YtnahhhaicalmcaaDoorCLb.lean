/- The given functions of Go's library, as the program has them. -/
import Derived.Test.YtnahhhaicalmcaaDoorAbLib
import Derived.Test.YtnahhhaicalmcaaDoorCInsB
import Derived.WalkKit
import Derived.Lib.Walk
import Derived.Shelf.Abstract
set_option linter.unusedVariables false
set_option linter.unusedSimpArgs false
namespace Go.Proofs.YtnahhhaicalmcaaDoor
open Go.Ab Go.RowKit
set_option maxRecDepth 100000

theorem count_walk (s : ByteArray) (c : UInt8) (w : World) : Calls Tryd.prog 49 #[.string s, .string ⟨#[c]⟩] w fun e w' => e = .returned (.int .i64 (Lib.countByte s.data.toList c)) ∧ w' = w := by
  go_enter Tryd.func49, Tryd.ntmps49
  go_wp2
  rw [run_callFunc_extern Tryd.func56 (by kernel_rfl) (by kernel_rfl) (by kernel_rfl) (e := Extern.BytealgCount.count) (by kernel_rfl), Lib.run_countString]
  simp only [Result.andThen]
  rw [Oper.upon_value]
  go_wp2
  go_ret
  exact ⟨rfl, rfl⟩
theorem byte_walk (s : ByteArray) (c : Int) (w : World) : Calls Tryd.prog 60 #[.string s, .int .u8 c] w fun e w' => e = .returned (.int .i64 (Lib.indexByte s.data.toList c.toNat.toUInt8)) ∧ w' = w := by
  go_enter Tryd.func60, Tryd.ntmps60
  go_wp2
  rw [run_callFunc_extern Tryd.func64 (by kernel_rfl) (by kernel_rfl) (by kernel_rfl) (e := Extern.BytealgIndexByte.indexByte) (by kernel_rfl), Lib.run_indexByteString]
  simp only [Result.andThen]
  rw [Oper.upon_value]
  go_wp2
  go_ret
  exact ⟨rfl, rfl⟩
set_option maxHeartbeats 1000000 in
theorem lite_walk (s : ByteArray) (c : UInt8) (w : World) : Calls Tryd.prog 57 #[.string s, .string ⟨#[c]⟩] w fun e w' => e = .returned (.int .i64 (Lib.indexByte s.data.toList c)) ∧ w' = w := by
  go_enter Tryd.func57, Tryd.ntmps57
  go_wp2_with (go_at_call 60; refine (byte_walk _ _ _).mono ?_; rintro e w' ⟨rfl, rfl⟩)
  · have h : ([c] == s.toList) = true := by assumption
    go_ret
    refine ⟨?_, rfl⟩
    have e : s.data.toList = [c] := by rw [← Lib.toList_data]; exact (beq_iff_eq.1 h).symm
    rw [e]
    simp [Lib.indexByte]
  · go_ret
    exact ⟨rfl, rfl⟩
theorem index_walk (s : ByteArray) (c : UInt8) (w : World) : Calls Tryd.prog 50 #[.string s, .string ⟨#[c]⟩] w fun e w' => e = .returned (.int .i64 (Lib.indexByte s.data.toList c)) ∧ w' = w := by
  go_enter Tryd.func50, Tryd.ntmps50
  go_wp2_with (go_at_call 57; refine (lite_walk _ _ _).mono ?_; rintro e w' ⟨rfl, rfl⟩)
  go_ret
  exact ⟨rfl, rfl⟩
theorem clip_walk (a : Addr) (n c : Nat) (h : n ≤ c) (w : World) : Calls Tryd.prog 36 #[.slice (some a) n c] w fun e w' => e = .returned (.slice (some a) n n) ∧ w' = w := by
  go_enter Tryd.func36, Tryd.ntmps36
  go_wp2
  go_ret
  exact ⟨rfl, rfl⟩
theorem clip_none (w : World) : Calls Tryd.prog 36 #[.slice none 0 0] w fun e w' => e = .returned (.slice none 0 0) ∧ w' = w := by
  go_enter Tryd.func36, Tryd.ntmps36
  go_wp2
  go_ret
  exact ⟨rfl, rfl⟩
theorem te_9 : K.te 9 = some .str := by kernel_rfl
theorem te_3 : K.te 3 = some (.int .i64) := by kernel_rfl
theorem te_22 : K.te 22 = some (.sl 9) := by kernel_rfl
/-- two strings are read, a number comes back -/
theorem spec_str2 {g : Nat} {s p : U} {n : Int} {fi : Ab.Fn} (hfi : K.fn g = some fi) (hown : fi.own = []) (hcaps : fi.caps = []) (hout : fi.out = []) (hps : fi.params = [9, 9]) (hrt : fi.rts = [3]) (eg : ∀ args w, (callFunc g args).run Tryd.prog w = .ok (.enter g args) w)
    (h : ∀ w, Calls Tryd.prog g #[.string (str s.toS), .string (str p.toS)] w fun e w' => e = .returned (.int .i64 n) ∧ w' = w) : Go.Ab.Spec Tryd.prog K g [s, p] (.I n) := by
  refine spec_reads hfi hown hcaps hout hrt eg fun f vs hf hA => ?_
  rw [hps] at hA
  match vs, hA with
  | [x, y], hA =>
    obtain ⟨⟨cs1, t1, r1⟩, ⟨cs2, t2, r2⟩, _⟩ := hA
    have hx := val_str te_9 t1 r1
    have hy := val_str te_9 t2 r2
    subst hx hy
    exact (h f.w0).mono fun e w' ⟨h1, h2⟩ => ⟨_, _, h1, h2, isVal_one (fun fs e => by rw [te_3] at e; cases e), fun H => .int (u := .I n) te_3⟩
theorem spec_49 {us : List U} {r : U} (h : countU us = some r) : Go.Ab.Spec Tryd.prog K 49 us r := by
  unfold countU at h
  split at h
  · rename_i s p
    split at h
    · rename_i c hc
      cases h
      refine spec_str2 rfl rfl rfl rfl rfl rfl (Go.Proofs.enters_of Tryd.func49 (by kernel_rfl) rfl) fun w => ?_
      rw [hc]
      exact count_walk _ c w
    · cases h
  · cases h
theorem spec_50 {us : List U} {r : U} (h : indexU us = some r) : Go.Ab.Spec Tryd.prog K 50 us r := by
  unfold indexU at h
  split at h
  · rename_i s p
    split at h
    · rename_i c hc
      cases h
      refine spec_str2 rfl rfl rfl rfl rfl rfl (Go.Proofs.enters_of Tryd.func50 (by kernel_rfl) rfl) fun w => ?_
      rw [hc]
      exact index_walk _ c w
    · cases h
  · cases h
theorem spec_36 {us : List U} {r : U} (h : clipU us = some r) : Go.Ab.Spec Tryd.prog K 36 us r := by
  unfold clipU at h
  split at h
  · rename_i s
    have hrs : s = r := Option.some.inj h
    clear h
    subst r
    refine .inl ⟨_, rfl, fun f vs hf hkp hargs => .inl ⟨Go.Proofs.enters_of Tryd.func36 (by kernel_rfl) rfl _ _, ?_⟩⟩
    obtain ⟨us1, us2, vs1, vs2, e1, e2, hA, hC⟩ := hargs
    match us2, vs2, hC with
    | [], [], _ =>
      rw [List.append_nil] at e1 e2
      subst e1; subst e2
      match vs, hA with
      | [x], hA =>
        obtain ⟨⟨e, t1, ⟨cs, k1, k2, k3, k4⟩, k5, k6⟩, _⟩ := hA
        rcases k1.2 with ⟨rfl, hn⟩ | ⟨g, cap, cur, rfl, b1, b2, b3, b4, b5, b6⟩
        · refine (clip_none f.w0).mono ?_
          rintro en w' ⟨rfl, rfl⟩
          exact ⟨⟨rfl, rfl, rfl, Nat.le_refl _, Nat.le_refl _, fun _ _ _ => rfl⟩, fun _ => False, [.slice none 0 0], ⟨⟨e, t1, ⟨cs, k1, fun i hi => absurd hi (by show ¬ i < s.toL.length; omega), k3, k4⟩, k5, fun b hb => by cases hb⟩, trivial⟩, rfl⟩
        · have hOg := k6 g rfl
          have hX : ∀ b, blkOf (.slice (some ⟨g, 0, none⟩) s.toL.length s.toL.length) = some b → f.w0.heap.size ≤ b ∨ f.O b := fun b hb => by cases hb; exact .inr hOg.1
          have hle := H_retV (w' := f.w0) (X := fun b => blkOf (.slice (some ⟨g, 0, none⟩) s.toL.length s.toL.length) = some b) hf hX
          refine (clip_walk ⟨g, 0, none⟩ s.toL.length cap b3 f.w0).mono ?_
          rintro en w' ⟨rfl, rfl⟩
          refine ⟨⟨rfl, rfl, rfl, Nat.le_refl _, Nat.le_refl _, fun _ _ _ => rfl⟩, fun b => blkOf (.slice (some ⟨g, 0, none⟩) s.toL.length s.toL.length) = some b, [.slice (some ⟨g, 0, none⟩) s.toL.length s.toL.length], ⟨⟨e, t1, ⟨cs, ⟨k1.1, .inr ⟨g, _, cur, rfl, trivial, b2, Nat.le_refl _, Nat.le_trans b3 b4, Nat.le_trans (Nat.mul_le_mul_right _ b3) b5, b6⟩⟩, fun i hi => (k2 i hi).mono hle, ?_, k4⟩, k5, fun b hb => ⟨hb, hX b hb, by simp [ownVs]⟩⟩, trivial⟩, rfl⟩
          constructor
          · intro h; cases h
          · intro h; have := k3.2 h; cases this
  · cases h
theorem K_pok : PrimOk Tryd.prog K := fun g h F us r hp hF hr => by
  have hm := assoc_mem (show assoc prs g = some h from hp)
  simp only [prs, List.mem_cons, List.mem_nil_iff, or_false, Prod.mk.injEq] at hm
  rcases hm with ⟨rfl, rfl⟩ | ⟨rfl, rfl⟩ | ⟨rfl, rfl⟩ | ⟨rfl, rfl⟩
  · exact Ins.spec hr
  · exact spec_36 hr
  · exact spec_49 hr
  · exact spec_50 hr
end Go.Proofs.YtnahhhaicalmcaaDoor
