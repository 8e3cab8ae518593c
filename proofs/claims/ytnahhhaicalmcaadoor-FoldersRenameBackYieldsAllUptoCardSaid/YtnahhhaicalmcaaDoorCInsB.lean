/- slices.Insert of one element: the contract. -/
import Derived.Test.YtnahhhaicalmcaaDoorCInsA
set_option linter.unusedVariables false
set_option linter.unusedSimpArgs false
namespace Go.Proofs.YtnahhhaicalmcaaDoor.Ins
open Go.Ab Go.RowKit
set_option maxRecDepth 100000
theorem a_end (a0 a1 a2 : U) : afun K (fun _ _ => none) (fun _ _ => none) (fun _ _ _ => none) 35 [a0, a1, a2] = (bif (((decide ((0 : Int) ≤ a1.toI)) && (decide (a1.toI ≤ ((a0.toL.length : Nat) : Int)))) && (decide (((a0.toL.length : Nat) : Int) ≤ ((a0.toL.length : Nat) : Int)))) then (bif (decide (((a2.toL.length : Nat) : Int) = 0)) then some (U.ofL (a0.isNil && a0.toL.isEmpty) a0.toL) else (bif (decide (a1.toI = ((a0.toL.length : Nat) : Int))) then (bif (decide (a0.toL.length + a2.toL.length ≤ 8796093022208)) then some (U.ofL (a0.isNil && (a0.toL ++ a2.toL).isEmpty) (a0.toL ++ a2.toL)) else none) else none)) else none) := by kernel_rfl

theorem chunk_app {A Y D : List Value} {n p : Nat} (hA : A.length = p * n) (hY : Y.length = n) (j : Nat) : chunk (A ++ Y ++ D) n j = if j < p then chunk A n j else if j = p then Y else chunk D n (j - p - 1) := by
  have hm : ∀ a b : Nat, a ≤ b → a * n ≤ b * n := fun a b h => Nat.mul_le_mul_right _ h
  apply List.ext_getElem?
  intro k
  rw [chunk_getq]
  by_cases hk : k < n
  · rw [if_pos hk]
    by_cases h1 : j < p
    · rw [if_pos h1, chunk_getq, if_pos hk]
      have := hm (j + 1) p h1
      rw [Nat.add_mul, Nat.one_mul] at this
      rw [List.append_assoc, List.getElem?_append_left (by omega)]
    · rw [if_neg h1]
      by_cases h2 : j = p
      · subst h2
        rw [if_pos rfl, List.append_assoc, List.getElem?_append_right (by omega), List.getElem?_append_left (by omega)]
        congr 1; omega
      · rw [if_neg h2, chunk_getq, if_pos hk]
        have := hm (p + 1) j (by omega)
        rw [Nat.add_mul, Nat.one_mul] at this
        rw [List.getElem?_append_right (by simp; omega)]
        congr 1
        simp only [List.length_append, hA, hY]
        have e : (j - p - 1) * n = j * n - (p + 1) * n := by rw [← Nat.mul_sub_right_distrib]; congr 1
        rw [e, Nat.add_mul, Nat.one_mul]
        omega
  · rw [if_neg hk]
    by_cases h1 : j < p
    · rw [if_pos h1, chunk_getq, if_neg hk]
    · rw [if_neg h1]
      by_cases h2 : j = p
      · rw [if_pos h2, List.getElem?_eq_none (by omega)]
      · rw [if_neg h2, chunk_getq, if_neg hk]
theorem chunk_take' {l : List Value} {n i j : Nat} (h : j < i) : chunk (l.take (i * n)) n j = chunk l n j := by
  have : (j + 1) * n ≤ i * n := Nat.mul_le_mul_right _ h
  rw [Nat.add_mul, Nat.one_mul] at this
  unfold chunk
  rw [List.drop_take, List.take_take, Nat.min_eq_left (by omega)]
theorem chunk_drop' {l : List Value} {n i j : Nat} : chunk (l.drop (i * n)) n j = chunk l n (i + j) := by
  unfold chunk
  rw [List.drop_drop]
  congr 2
  rw [Nat.add_mul]
theorem rep1 {H : View} {t : Nat} {cs : List Value} {u : U} (h : Rep K H t cs u) : ∀ v ∈ cs, v.oneCell' = true := h.cells1
theorem row_one {H : View} {xs : List U} {cs : List Value} {n e : Nat} (hl : cs.length = n * K.sz e) (hn : xs.length = n) (h : ∀ i, i < n → Rep K H e (chunk cs (K.sz e) i) (U.nth xs i)) (h0 : 0 < K.sz e) : ∀ v ∈ cs, v.oneCell' = true := by
  intro v hv
  obtain ⟨k, hk, rfl⟩ := List.mem_iff_getElem.1 hv
  have hi : k / K.sz e < n := Nat.div_lt_of_lt_mul (by rw [Nat.mul_comm]; omega)
  have hm : k % K.sz e < K.sz e := Nat.mod_lt _ h0
  refine rep1 (h _ hi) _ ?_
  have : (chunk cs (K.sz e) (k / K.sz e))[k % K.sz e]? = some cs[k] := by
    rw [chunk_getq, if_pos hm]
    have e' : k / K.sz e * K.sz e + k % K.sz e = k := by rw [Nat.mul_comm]; exact Nat.div_add_mod k _
    rw [e']; exact List.getElem?_eq_getElem hk
  exact List.mem_of_getElem? this

theorem spec {us : List U} {r : U} (h : insertU (K.lim 9) us = some r) : Ab.Spec Tryd.prog K 35 us r := by
  match us, h with
  | [s, i, v], h =>
    simp only [insertU] at h
    obtain ⟨hc, h⟩ := cond_some h
    simp only [Bool.and_eq_true, decide_eq_true_eq] at hc
    obtain ⟨⟨⟨h0, h1⟩, hv1⟩, hlim⟩ := hc
    have hv1 := Nat.eq_of_beq_eq_true hv1
    have hlim := Nat.le_of_ble_eq_true hlim
    simp only [Option.some.injEq] at h
    subst h
    have hvl : v.toL = [v.get 0] := by
      have : v.toL.length = 1 := by rw [toL_len]; exact hv1
      match hq : v.toL, this with
      | [x], _ =>
        have := toL_get v 0 (by omega)
        rw [hq] at this
        simp at this
        rw [this]
    by_cases hend : i.toI = s.len
    · -- at the end
      have hi' : i.toI.toNat = s.toL.length := by rw [toL_len, hend]; simp
      have hr : U.ofL false (s.toL.take i.toI.toNat ++ v.get 0 :: s.toL.drop i.toI.toNat) = U.ofL (s.isNil && (s.toL ++ v.toL).isEmpty) (s.toL ++ v.toL) := by
        have e0 : (s.toL ++ [v.get 0]).isEmpty = false := by cases s.toL <;> rfl
        rw [hi', List.take_length, List.drop_length, hvl, e0, Bool.and_false]
      rw [hr]
      refine afun_sound (F := fun _ _ => none) (Y := fun _ _ => none) (L := fun _ _ _ => none) K_ok K_zok K_lok (fun fi hf => K_fns.mem (assoc_mem hf)) (fun _ _ _ h => by cases h) (fun _ _ _ h => by cases h) (fun _ _ _ _ h => by cases h) ?_
      rw [a_end]
      have e1 : s.toL.length = s.len := toL_len s
      have e2 : v.toL.length = 1 := by rw [toL_len]; exact hv1
      have hl : s.len + 1 ≤ K.lim 9 := hlim
      have hL : s.len + 1 ≤ 8796093022208 := hl
      simp [e1, e2, hend, hL]
    · have hlt : i.toI.toNat < s.len := by omega
      have hii : ((i.toI.toNat : Nat) : Int) = i.toI := by omega
      refine .inl ⟨_, rfl, fun f vs hf _hkp hargs => .inl ?_⟩
      obtain ⟨us1, us2, vs1, vs2, e1, e2, hA, hC⟩ := hargs
      match us2, vs2, hC with
      | [], [], _ =>
        rw [List.append_nil] at e1 e2
        subst e1; subst e2
        match vs, hA with
        | [x, y, z], hA =>
          obtain ⟨⟨e, t1, ⟨cs, k1, k2, k3, k4⟩, k5, k6⟩, ⟨cs2, t2, hy⟩, ⟨e', t3, ⟨ds, j1, j2, j3, j4⟩, j5, j6⟩, _⟩ := hA
          have te1 : K.te 22 = some (.sl e) := t1
          have te3 : K.te 22 = some (.sl e') := t3
          rw [te_s] at te1 te3
          obtain rfl : 9 = e := by simpa using te1
          obtain rfl : 9 = e' := by simpa using te3
          have hyv : y = .int .i64 i.toI := by
            have hy : Rep K f.H 3 cs2 i := hy
            have t2 : IsVal K 3 y cs2 := t2
            cases hy with
            | int h =>
              rw [te_i] at h
              cases h
              have : ([.int .i64 i.toI] : List Value) = [y] := t2
              simpa using this.symm
            | _ => simp_all [te_i]
          have hl1 : s.toL.length = s.len := toL_len s
          have hl2 : v.toL.length = 1 := by rw [toL_len]; exact hv1
          rw [hl1] at k1 k2
          rw [hl2] at j1 j2
          obtain ⟨_, _, _, _, _, _, h0e, _⟩ := zero_size K_ok K_zok ze
          rcases k1.2 with ⟨_, ez⟩ | ⟨g, cap, cur, rfl, b1, b2, b3, b4, b5, b6⟩
          · omega
          rcases j1.2 with ⟨_, ez⟩ | ⟨gv, cv, cuv, rfl, d1, d2, d3, d4, d5, d6⟩
          · omega
          have hOg := k6 g rfl
          have hOgv := j6 gv rfl
          have hne : gv ≠ g := fun h => hOg.2 (.slice (some ⟨gv, 0, none⟩) 1 cv) (by simp [fnOf, ownVs, hd0]) (by rw [h]; rfl)
          subst hyv
          obtain ⟨fn, f1, f2, _, _, f5⟩ := K_fns.mem (assoc_mem (show assoc fns 35 = some _ from rfl))
          refine ⟨by simp [callFunc, f1, f2, f5], ?_⟩
          have hcall := call f.w0 g s.len cap i.toI.toNat gv cv cs ds k1 j1 hne hlt (row_one k1.1 hl1 k2 h0e) (row_one j1.1 hl2 j2 h0e) hlim
          rw [hii] at hcall
          refine hcall.mono fun en w' hen => ?_
          obtain ⟨rv, rfl, q1, q2, q3, q4⟩ := hen
          have hX : ∀ b, blkOf rv = some b → f.w0.heap.size ≤ b ∨ f.O b := fun b hb => (q4 b hb).imp id fun h => by rw [h]; exact hOg.1
          have hle := H_retV (w' := w') (X := fun b => blkOf rv = some b) hf hX
          have hlen : (s.toL.take i.toI.toNat ++ v.get 0 :: s.toL.drop i.toI.toNat).length = s.len + 1 := by simp [hl1]; omega
          have hres : Res1 K (retV f w' (fun b => blkOf rv = some b)) w' (some true) 22 (U.ofL false (s.toL.take i.toI.toNat ++ v.get 0 :: s.toL.drop i.toI.toNat)) rv (fun b => blkOf rv = some b ∧ (f.w0.heap.size ≤ b ∨ f.O b) ∧ ∀ v' ∈ ownVs [] [], blkOf v' ≠ some b) := by
            refine ⟨9, te_s, ⟨cs.take (i.toI.toNat * K.sz 9) ++ ds ++ cs.drop (i.toI.toNat * K.sz 9), ?_, ?_, ?_, k4⟩, (fun (h : false = true) => by cases h), fun b hb => ⟨hb, hX b hb, by simp [ownVs]⟩⟩
            · show w'.owns 9 (K.sz 9) rv (U.toL (U.ofL false _)).length _
              rw [toL_ofL, hlen]; exact q2
            · show ∀ j, j < (U.toL (U.ofL false (s.toL.take i.toI.toNat ++ v.get 0 :: s.toL.drop i.toI.toNat))).length → Rep K (retV f w' (fun b => blkOf rv = some b)) 9 (chunk (cs.take (i.toI.toNat * K.sz 9) ++ ds ++ cs.drop (i.toI.toNat * K.sz 9)) (K.sz 9) j) (U.nth (U.toL (U.ofL false (s.toL.take i.toI.toNat ++ v.get 0 :: s.toL.drop i.toI.toNat))) j)
              rw [toL_ofL, hlen]
              intro j hj
              have hcl : cs.length = s.len * K.sz 9 := k1.1
              have hle2 : i.toI.toNat * K.sz 9 ≤ s.len * K.sz 9 := Nat.mul_le_mul_right _ (by omega)
              rw [chunk_app (n := K.sz 9) (p := i.toI.toNat) (A := cs.take (i.toI.toNat * K.sz 9)) (Y := ds) (D := cs.drop (i.toI.toNat * K.sz 9)) (by simp; omega) (by have := j1.1; omega) j]
              have hn : U.nth (s.toL.take i.toI.toNat ++ v.get 0 :: s.toL.drop i.toI.toNat) j = if j < i.toI.toNat then U.nth s.toL j else if j = i.toI.toNat then v.get 0 else U.nth s.toL (j - 1) := by
                rw [nth_get, List.getElem?_append]
                have hlt2 : (s.toL.take i.toI.toNat).length = i.toI.toNat := by simp [hl1]; omega
                rw [hlt2]
                split
                · rename_i h; rw [List.getElem?_take, if_pos h, nth_get]
                · rename_i h
                  split
                  · rename_i h2; rw [h2]; simp
                  · rename_i h2
                    rw [show j - i.toI.toNat = (j - i.toI.toNat - 1) + 1 by omega, List.getElem?_cons_succ, List.getElem?_drop, nth_get]
                    congr 2; omega
              rw [hn]
              split
              · rename_i h; rw [chunk_take' (i := i.toI.toNat) h]; exact (k2 j (by omega)).mono hle
              · rename_i h
                split
                · have := (j2 0 (by omega)).mono hle
                  rw [hvl] at this
                  have e9 : chunk ds (K.sz 9) 0 = ds := by
                    unfold chunk
                    rw [Nat.zero_mul, List.drop_zero, List.take_of_length_le (by have := j1.1; omega)]
                  rw [e9] at this
                  exact this
                · rename_i h2
                  rw [chunk_drop' (i := i.toI.toNat), show i.toI.toNat + (j - i.toI.toNat - 1) = j - 1 by omega]
                  exact (k2 (j - 1) (by omega)).mono hle
            · show rv = _ ↔ false = true ∧ _
              simp [q3]
          exact ⟨⟨q1.os, q1.tape, q1.output, q1.size, q1.drawn, fun k hk hO => q1.block k hk (fun h => hO (by rw [h]; exact hOg.1))⟩, fun b => blkOf rv = some b, [rv], ⟨hres, trivial⟩, rfl⟩
  | [], h => simp [insertU] at h
  | [_], h => simp [insertU] at h
  | [_, _], h => simp [insertU] at h
  | _ :: _ :: _ :: _ :: _, h => simp [insertU] at h
end Go.Proofs.YtnahhhaicalmcaaDoor.Ins
