/- Sorted lists of paths: search, insertion, deletion, the check. -/
import Derived.Test.YtnahhhaicalmcaaDoorCPb
set_option linter.unusedVariables false
set_option linter.unusedSimpArgs false
section
namespace Go.Proofs.YtnahhhaicalmcaaDoor
open Go.Ab
set_option linter.unusedVariables false
set_option linter.unusedSimpArgs false
set_option maxRecDepth 100000

theorem bl_irr : ∀ a : Bs, Op.bytesLess a a = false
  | [] => rfl
  | a :: x => by
    have := bl_irr x
    simp [Op.bytesLess, this]
theorem bl_trans : ∀ a b c : Bs, Op.bytesLess a b = true → Op.bytesLess b c = true → Op.bytesLess a c = true
  | _, [], _, h, _ => by simp [Op.bytesLess] at h
  | _, _ :: _, [], _, h => by simp [Op.bytesLess] at h
  | [], _ :: _, _ :: _, _, _ => rfl
  | a :: x, b :: y, c :: z, h1, h2 => by
    simp only [Op.bytesLess, Bool.or_eq_true, decide_eq_true_eq, Bool.and_eq_true, beq_iff_eq] at h1 h2 ⊢
    rcases h1 with h1 | ⟨h1, k1⟩
    · rcases h2 with h2 | ⟨h2, _⟩
      · exact .inl (UInt8.lt_trans h1 h2)
      · subst h2; exact .inl h1
    · subst h1
      rcases h2 with h2 | ⟨h2, k2⟩
      · exact .inl h2
      · exact .inr ⟨h2, bl_trans x y z k1 k2⟩
theorem bl_total : ∀ a b : Bs, Op.bytesLess a b = false → Op.bytesLess b a = false → a = b
  | [], [], _, _ => rfl
  | [], _ :: _, h, _ => by simp [Op.bytesLess] at h
  | _ :: _, [], _, h => by simp [Op.bytesLess] at h
  | a :: x, b :: y, h1, h2 => by
    simp only [Op.bytesLess, Bool.or_eq_false_iff, decide_eq_false_iff_not, Bool.and_eq_false_iff, beq_eq_false_iff_ne] at h1 h2
    obtain ⟨h1, k1⟩ := h1
    obtain ⟨h2, k2⟩ := h2
    have hab : a = b := UInt8.le_antisymm (UInt8.not_lt.1 h2) (UInt8.not_lt.1 h1)
    subst hab
    rw [bl_total x y (by rcases k1 with k | k; exact absurd rfl k; exact k) (by rcases k2 with k | k; exact absurd rfl k; exact k)]
/-- strictly in order -/
def Srt (l : List Bs) : Prop := l.Pairwise fun a b => Op.bytesLess a b = true
theorem Srt.ext : ∀ {l m : List Bs}, Srt l → Srt m → (∀ t, t ∈ l ↔ t ∈ m) → l = m
  | [], [], _, _, _ => rfl
  | [], y :: m, _, _, h => by have := (h y).2 (List.mem_cons_self ..); simp at this
  | x :: l, [], _, _, h => by have := (h x).1 (List.mem_cons_self ..); simp at this
  | x :: l, y :: m, hl, hm, h => by
    obtain ⟨a1, a2⟩ := List.pairwise_cons.1 hl
    obtain ⟨b1, b2⟩ := List.pairwise_cons.1 hm
    have e : x = y := by
      rcases List.mem_cons.1 ((h x).1 (List.mem_cons_self ..)) with e | e
      · exact e
      · rcases List.mem_cons.1 ((h y).2 (List.mem_cons_self ..)) with e' | e'
        · exact e'.symm
        · have := bl_trans _ _ _ (a1 y e') (b1 x e)
          rw [bl_irr] at this; cases this
    subst e
    rw [Srt.ext a2 b2 fun t => ?_]
    constructor
    · intro ht
      rcases List.mem_cons.1 ((h t).1 (List.mem_cons_of_mem _ ht)) with e | e
      · subst e; have := a1 t ht; rw [bl_irr] at this; cases this
      · exact e
    · intro ht
      rcases List.mem_cons.1 ((h t).2 (List.mem_cons_of_mem _ ht)) with e | e
      · subst e; have := b1 t ht; rw [bl_irr] at this; cases this
      · exact e
theorem wu64 {n : Int} (h1 : 0 ≤ n) (h2 : n ≤ 9223372036854775807) : IntKind.wrap .u64 n = n := by
  simp [IntKind.wrap, IntKind.signed, IntKind.bits]; omega
theorem l34 {u : U} {l : List Bs} (x : Bs) (hu : Is U.S u l) (hl : l.length ≤ 8796093022208) (hs : Srt l) : ∀ (n i j : Nat), j - i ≤ n → i ≤ j → j ≤ l.length → (∀ t ∈ l.take i, Op.bytesLess t x = true) → (∀ t ∈ l.drop j, Op.bytesLess t x = false) →
    ∃ k : Nat, k ≤ l.length ∧ (∀ t ∈ l.take k, Op.bytesLess t x = true) ∧ (∀ t ∈ l.drop k, Op.bytesLess t x = false) ∧
      Lp K 34 0 ⟨[u, .S x, .I (l.length : Nat), .I (i : Nat), .I (j : Nat)], []⟩ = some (.brk ⟨[u, .S x, .I (l.length : Nat), .I (k : Nat)], []⟩)
  | 0, i, j, hn, hij, hj, h1, h2 => by
    have : i = j := by omega
    subst this
    have h3 : ¬ ((i : Int) < (i : Int)) := by omega
    exact ⟨i, hj, h1, h2, l34_0 _ _ _ _ _ (by simp only [h3, decide_false, cond_false])⟩
  | n + 1, i, j, hn, hij, hj, h1, h2 => by
    by_cases hlt : i < j
    · have h3 : ((i : Int) < (j : Int)) := by omega
      have hm : (IntKind.wrap .i64 (Int.fdiv (IntKind.wrap .u64 (IntKind.wrap .i64 ((i : Int) + (j : Int)))) 2)) = (((i + j) / 2 : Nat) : Int) := by
        rw [w64 (n := (i : Int) + (j : Int)) (by omega) (by omega), wu64 (by omega) (by omega), Int.fdiv_eq_ediv_of_nonneg _ (by omega), w64 (by omega) (by omega)]
        omega
      have hml : (i + j) / 2 < l.length := by omega
      obtain ⟨y, hy⟩ : ∃ y, l[(i + j) / 2]? = some y := ⟨_, List.getElem?_eq_getElem hml⟩
      have hg := hu.get _ _ hy
      have h4 : (0 : Int) ≤ (((i + j) / 2 : Nat) : Int) := by omega
      have h5 : (((i + j) / 2 : Nat) : Int) < ((l.length : Nat) : Int) := by omega
      have key : ∀ o : LO, (bif decide ((i : Int) < (j : Int)) then (bif ((decide ((0 : Int) ≤ (((i + j) / 2 : Nat) : Int))) && (decide ((((i + j) / 2 : Nat) : Int) < ((u.len : Nat) : Int)))) then (Fi K 42 [(U.S (u.get (((i + j) / 2 : Nat) : Int).toNat).toS), (U.S x)]).bind fun r1 => loK ((bif r1.toB then some (.brk ⟨[u, (U.S x), (U.I (l.length : Nat)), (U.I (IntKind.wrap .i64 ((((i + j) / 2 : Nat) : Int) + 1))), (U.I (j : Nat))], []⟩) else some (.brk ⟨[u, (U.S x), (U.I (l.length : Nat)), (U.I (i : Nat)), (U.I (((i + j) / 2 : Nat) : Int))], []⟩))) (fun r2 => Lp K 34 0 ⟨[(U.nth r2.us 0), (U.S (U.nth r2.us 1).toS), (U.I (U.nth r2.us 2).toI), (U.I (U.nth r2.us 3).toI), (U.I (U.nth r2.us 4).toI)], []⟩) (fun u => some (.ret u)) else none) else some (.brk ⟨[u, (U.S x), (U.I (l.length : Nat)), (U.I (i : Nat))], []⟩)) = some o → Lp K 34 0 ⟨[u, .S x, .I (l.length : Nat), .I (i : Nat), .I (j : Nat)], []⟩ = some o := fun o ho => l34_0 _ _ _ _ _ (by simp only [hm]; exact ho)
      cases hb : Op.bytesLess y x
      · obtain ⟨k, k1, k2, k3, k4⟩ := l34 x hu hl hs n i ((i + j) / 2) (by omega) (by omega) (by omega) h1 (by
          intro t ht
          rw [drop_getD [] hml, show l.getD ((i + j) / 2) [] = y by rw [List.getD, hy]; rfl] at ht
          rcases List.mem_cons.1 ht with e | e
          · subst e; exact hb
          · have hp : Op.bytesLess y t = true := by
              have hs' : Srt (l.drop ((i + j) / 2)) := List.Pairwise.sublist (List.drop_sublist ..) hs
              rw [drop_getD [] hml, show l.getD ((i + j) / 2) [] = y by rw [List.getD, hy]; rfl] at hs'
              exact (List.pairwise_cons.1 hs').1 t e
            cases hc : Op.bytesLess t x
            · rfl
            · rw [bl_trans _ _ _ hp hc] at hb; cases hb)
        refine ⟨k, k1, k2, k3, key _ ?_⟩
        simp only [h3, h4, h5, decide_true, cond_true, Bool.and_self, Int.toNat_natCast, hu.len, hg, toS_S, s42, hb, Option.bind_some, toB_B, cond_false, loK, nth_zero, nth_succ, toI_I]
        exact k4
      · obtain ⟨k, k1, k2, k3, k4⟩ := l34 x hu hl hs n ((i + j) / 2 + 1) j (by omega) (by omega) (by omega) (by
          intro t ht
          rw [List.take_add_one, hy] at ht
          rcases List.mem_append.1 ht with e | e
          · have hp : Op.bytesLess t y = true := by
              have hs' : Srt (l.take ((i + j) / 2 + 1)) := List.Pairwise.sublist (List.take_sublist ..) hs
              rw [List.take_add_one, hy] at hs'
              exact (List.pairwise_append.1 hs').2.2 t e y (by simp)
            exact bl_trans _ _ _ hp hb
          · simp at e; subst e; exact hb) h2
        refine ⟨k, k1, k2, k3, key _ ?_⟩
        simp only [h3, h4, h5, decide_true, cond_true, Bool.and_self, Int.toNat_natCast, hu.len, hg, toS_S, s42, hb, Option.bind_some, toB_B, cond_false, loK, nth_zero, nth_succ, toI_I]
        rw [w64s (by omega)]
        exact k4
    · have : i = j := by omega
      subst this
      have h3 : ¬ ((i : Int) < (i : Int)) := by omega
      exact ⟨i, hj, h1, h2, l34_0 _ _ _ _ _ (by simp only [h3, decide_false, cond_false])⟩
theorem s34 {u : U} {l : List Bs} (x : Bs) (hu : Is U.S u l) (hl : l.length ≤ 8796093022208) (hs : Srt l) : ∃ k : Nat, k ≤ l.length ∧ (∀ t ∈ l.take k, Op.bytesLess t x = true) ∧ (∀ t ∈ l.drop k, Op.bytesLess t x = false) ∧ Fi K 34 [u, .S x] = some (.ofL false [.I (k : Nat), .B (has l x)]) := by
  obtain ⟨k, k1, k2, k3, k4⟩ := l34 x hu hl hs l.length 0 l.length (by omega) (by omega) (by omega) (by simp) (by simp)
  refine ⟨k, k1, k2, k3, e34 _ _ ?_⟩
  rw [hu.len]
  rw [show Lp K 34 0 ⟨[u, .S x, .I ((l.length : Nat) : Int), .I 0, .I ((l.length : Nat) : Int)], []⟩ = some (.brk ⟨[u, .S x, .I (l.length : Nat), .I (k : Nat)], []⟩) from k4]
  have h1 : (0 : Int) ≤ (k : Int) := by omega
  by_cases hk : k < l.length
  · obtain ⟨y, hy⟩ : ∃ y, l[k]? = some y := ⟨_, List.getElem?_eq_getElem hk⟩
    have hg := hu.get _ _ hy
    have h2 : (k : Int) < ((l.length : Nat) : Int) := by omega
    have hd : l.drop k = y :: l.drop (k + 1) := by rw [drop_getD [] hk, show l.getD k [] = y by rw [List.getD, hy]; rfl]
    by_cases hxy : y = x
    · have hh : has l x = true := has_iff.2 (by rw [← hxy]; exact List.mem_of_getElem? hy)
      simp only [loK, Option.bind_some, nth_zero, nth_succ, toI_I, toS_S, hu.len, h1, h2, Int.toNat_natCast, hg, hxy, decide_true, cond_true, Bool.and_self, Bool.true_or, Bool.not_true, Bool.and_false, cond_false, hh, Bool.false_and]
    · have hh : has l x = false := by
        cases h : has l x
        · rfl
        · have := has_iff.1 h
          rw [← List.take_append_drop k l] at this
          rcases List.mem_append.1 this with e | e
          · have := k2 x e; rw [bl_irr] at this; cases this
          · rw [hd] at e
            rcases List.mem_cons.1 e with e | e
            · exact absurd e.symm hxy
            · have hs' : Srt (l.drop k) := List.Pairwise.sublist (List.drop_sublist ..) hs
              rw [hd] at hs'
              have a := (List.pairwise_cons.1 hs').1 x e
              have b := k3 y (by rw [hd]; exact List.mem_cons_self ..)
              rw [a] at b; cases b
      simp only [loK, Option.bind_some, nth_zero, nth_succ, toI_I, toS_S, hu.len, h1, h2, Int.toNat_natCast, hg, hxy, decide_true, decide_false, cond_true, Bool.and_self, Bool.true_or, Bool.not_false, Bool.and_true, Bool.and_false, cond_false, hh, Bool.false_and, s43, toB_B, Bool.or_self]
  · have hk' : k = l.length := by omega
    have h2 : ¬ ((k : Int) < ((l.length : Nat) : Int)) := by omega
    have hh : has l x = false := by
      cases h : has l x
      · rfl
      · have := has_iff.1 h
        rw [← List.take_of_length_le (i := k) (l := l) (by omega)] at this
        have := k2 x this; rw [bl_irr] at this; cases this
    simp only [loK, Option.bind_some, nth_zero, nth_succ, toI_I, toS_S, hu.len, h1, h2, Int.toNat_natCast, decide_true, decide_false, cond_true, Bool.and_self, Bool.or_true, Bool.not_false, Bool.and_true, Bool.and_false, cond_false, hh, Bool.false_and, toB_B, Bool.or_self]
theorem s36 (u : U) : Fi K 36 [u] = some u := Fi_prim (f := clipU) rfl rfl
theorem s35 {u : U} {l : List Bs} {k : Nat} (x : Bs) (hu : Is U.S u l) (hl : l.length < 8796093022208) (hk : k ≤ l.length) : Fi K 35 [u, .I (k : Nat), .ofL false [.S x]] = some (.ofL false ((l.take k ++ x :: l.drop k).map U.S)) := by
  refine Fi_prim (f := insertU 8796093022208) rfl ?_
  have h1 : (0 : Int) ≤ (k : Int) := by omega
  have h2 : (k : Int) ≤ ((u.len : Nat) : Int) := by rw [hu.len]; omega
  have h3 : Nat.ble (u.len + 1) 8796093022208 = true := by rw [hu.len]; exact Nat.ble_eq_true_of_le (by omega)
  show (bif (decide ((0 : Int) ≤ (k : Int)) && decide ((k : Int) ≤ ((u.len : Nat) : Int)) && Nat.beq 1 1 && Nat.ble (u.len + 1) 8796093022208) then some (U.ofL false (u.toL.take ((k : Int)).toNat ++ U.S x :: u.toL.drop ((k : Int)).toNat)) else none) = _
  rw [decide_eq_true h1, decide_eq_true h2, h3, hu.toL, Int.toNat_natCast]
  simp
/-- a path's ancestors and itself -/
def chF : Nat → Bs → List Bs
  | 0, _ => []
  | n + 1, s => bif decide (s = []) then [] else s :: chF n (par s)
def ch (s : Bs) : List Bs := chF s.length s
theorem parU_len (s : Bs) : ∀ k, (parU s k).length ≤ k - 1
  | 0 => by simp [parU]
  | k + 1 => by
    have ih := parU_len s k
    rw [parU]
    cases decide (s.getD k 0 = 47)
    · show (parU s k).length ≤ _; omega
    · show (s.take k).length ≤ _; rw [List.length_take]; omega
theorem par_len (s : Bs) : (par s).length ≤ s.length - 1 := parU_len s s.length
theorem chF_eq : ∀ (n : Nat) (s : Bs), s.length ≤ n → chF n s = chF s.length s
  | 0, s, h => by
    have : s.length = 0 := by omega
    rw [this]
  | n + 1, [], h => rfl
  | n + 1, c :: s, h => by
    have e : decide (c :: s = []) = false := decide_eq_false (by simp)
    have hp := par_len (c :: s)
    rw [List.length_cons] at h hp
    rw [List.length_cons, chF, chF, e, cond_false, cond_false, chF_eq n _ (by omega), chF_eq s.length _ (by omega)]
theorem ch_nil : ch [] = [] := rfl
theorem ch_cons {s : Bs} (h : s ≠ []) : ch s = s :: ch (par s) := by
  cases s with
  | nil => exact absurd rfl h
  | cons c s =>
    have e : decide (c :: s = []) = false := decide_eq_false (by simp)
    have hp := par_len (c :: s)
    rw [List.length_cons] at hp
    rw [ch, List.length_cons, chF, e, cond_false, chF_eq s.length _ (by omega)]
    rfl
theorem sl_z {z : Bool} {l : List Bs} : Sl (U.ofL (z && (l.map U.S).isEmpty) (l.map U.S)) l := Sl.mk' fun h => by
  rw [Bool.and_eq_true] at h
  simpa using h.2
theorem l19 : ∀ (n : Nat) (s : Bs) (z : Bool) (l : List Bs), s.length ≤ n → s.length ≤ 4194304 → l.length + s.length ≤ 8796093022207 → Srt l →
    ∃ z' m, Lp K 19 0 ⟨[.B z, .S s], [l.map U.S]⟩ = some (.brk ⟨[.B z'], [m.map U.S]⟩) ∧ Srt m ∧ (∀ t, t ∈ m ↔ t ∈ l ∨ t ∈ ch s) ∧ m.length ≤ l.length + s.length
  | n, [], z, l, h1, h2, h3, h4 => ⟨z, l, l19_0 _ _ _ (by simp), h4, fun t => by rw [ch_nil]; simp, by simp⟩
  | 0, c :: s, z, l, h1, h2, h3, h4 => by simp at h1
  | n + 1, c :: s, z, l, h1, h2, h3, h4 => by
    have hp := par_len (c :: s)
    obtain ⟨k, k1, k2, k3, k4⟩ := s34 (c :: s) (sl_z (z := z) (l := l)).is (by omega) h4
    have hch := ch_cons (s := c :: s) (by simp)
    have e : decide (c :: s = ([] : Bs)) = false := decide_eq_false (by simp)
    rw [List.length_cons] at h1 h3 hp
    have h2' : s.length + 1 ≤ 4194304 := h2
    by_cases hh : has l (c :: s) = true
    · obtain ⟨z', m, i1, i2, i3, i4⟩ := l19 n (par (c :: s)) z l (by omega) (by omega) (by omega) h4
      refine ⟨z', m, l19_0 _ _ _ ?_, i2, fun t => ?_, by rw [List.length_cons]; omega⟩
      · rw [e, Bool.not_false, cond_true, k4, Option.bind_some]
        simp only [get_ofL', nth_zero, nth_succ, toB_B, hh, Bool.not_true, cond_false, loK, Option.bind_some, nthL_zero, toS_S, s23 h2]
        exact i1
      · rw [i3, hch, List.mem_cons]
        constructor
        · rintro (h | h)
          · exact .inl h
          · exact .inr (.inr h)
        · rintro (h | h | h)
          · exact .inl h
          · subst h; exact .inl (has_iff.1 hh)
          · exact .inr h
    · have hh : has l (c :: s) = false := by simpa using hh
      have hlen : (l.take k ++ (c :: s) :: l.drop k).length = l.length + 1 := by
        rw [List.length_append, List.length_cons, List.length_take, List.length_drop]; omega
      have hsr : Srt (l.take k ++ (c :: s) :: l.drop k) := by
        have h5 := h4
        rw [← List.take_append_drop k l] at h5
        obtain ⟨a1, a2, a3⟩ := List.pairwise_append.1 h5
        refine List.pairwise_append.2 ⟨a1, List.pairwise_cons.2 ⟨fun t ht => ?_, a2⟩, fun t ht y hy => ?_⟩
        · cases hb : Op.bytesLess (c :: s) t
          · have := bl_total _ _ hb (k3 t ht)
            subst this
            rw [has_iff.2 (List.mem_of_mem_drop ht)] at hh; cases hh
          · rfl
        · rcases List.mem_cons.1 hy with e | e
          · subst e; exact k2 t ht
          · exact a3 t ht y e
      obtain ⟨z', m, i1, i2, i3, i4⟩ := l19 n (par (c :: s)) false (l.take k ++ (c :: s) :: l.drop k) (by omega) (by omega) (by omega) hsr
      refine ⟨z', m, l19_0 _ _ _ ?_, i2, fun t => ?_, by rw [List.length_cons]; omega⟩
      · rw [e, Bool.not_false, cond_true, k4, Option.bind_some]
        simp only [get_ofL', nth_zero, nth_succ, toB_B, hh, Bool.not_false, cond_true, s36, Option.bind_some, isNil_ofL', toL_ofL', toI_I]
        rw [s35 (c :: s) (Is.mk' _ _ _) (by omega) k1]
        simp only [loK, Option.bind_some, nth_zero, nth_succ, nthL_zero, toS_S, toB_B, isNil_ofL', toL_ofL', s23 h2]
        exact i1
      · rw [i3, hch, List.mem_cons]
        have : t ∈ l.take k ++ (c :: s) :: l.drop k ↔ t = c :: s ∨ t ∈ l := by
          conv => rhs; rw [← List.take_append_drop k l]
          simp only [List.mem_append, List.mem_cons]
          constructor
          · rintro (h | h | h)
            · exact .inr (.inl h)
            · exact .inl h
            · exact .inr (.inr h)
          · rintro (h | h | h)
            · exact .inr (.inl h)
            · exact .inl h
            · exact .inr (.inr h)
        rw [this]
        constructor
        · rintro ((h | h) | h)
          · exact .inr (.inl h)
          · exact .inl h
          · exact .inr (.inr h)
        · rintro (h | h | h)
          · exact .inl (.inr h)
          · exact .inl (.inl h)
          · exact .inr h
theorem s19 {b : Bool} {l : List Bs} {s : Bs} (h2 : s.length ≤ 4194304) (h3 : l.length + s.length ≤ 8796093022207) (h4 : Srt l) :
    ∃ z m, Fi K 19 [.ofL b (l.map U.S), .S s] = some (.ofL (z && (m.map U.S).isEmpty) (m.map U.S)) ∧ Srt m ∧ (∀ t, t ∈ m ↔ t ∈ l ∨ t ∈ ch s) ∧ m.length ≤ l.length + s.length := by
  obtain ⟨z', m, i1, i2, i3, i4⟩ := l19 s.length s b l (Nat.le_refl _) h2 h3 h4
  refine ⟨z', m, e19 _ _ ?_, i2, i3, i4⟩
  simp only [isNil_ofL', toL_ofL']
  rw [i1]
  rfl
theorem s20 {u : U} {l : List Bs} (hu : Sl u l) (hl : l.length ≤ 8796093022208) : ∃ b, Fi K 20 [u] = some (.ofL b (l.map U.S)) ∧ (b = true → l = []) := by
  cases h : u.isNil
  · refine ⟨false, e20 _ ?_, fun h => by cases h⟩
    have h1 : 0 + (l.map U.S).length ≤ 8796093022208 := by rw [List.length_map]; omega
    simp only [h, cond_false, hu.is.toL, h1, decide_true, cond_true]
  · refine ⟨true, e20 _ ?_, fun _ => hu.nil h⟩
    rw [h, hu.nil h]
    rfl
theorem s18 {b : Bool} {l : List Bs} : Fi K 18 [.ofL b (l.map U.S)] = some (bif decide (100 < l.length) then .ofL false [U.nil, .ofL false [.I 2, .I (-1)]] else .ofL false [.ofL b (l.map U.S), .ofL false [.I 0, .I 0]]) := by
  refine e18 _ ?_
  have c : ((100 : Int) < (((U.ofL b (l.map U.S)).len : Nat) : Int)) ↔ 100 < l.length := by rw [len_ofL', List.length_map]; omega
  rw [decide_eq_decide.2 c, s16]
  cases decide (100 < l.length) <;> rfl
end Go.Proofs.YtnahhhaicalmcaaDoor
end
section
namespace Go.Proofs.YtnahhhaicalmcaaDoor
open Go.Ab
set_option linter.unusedVariables false
set_option linter.unusedSimpArgs false
set_option maxRecDepth 100000

def keep (p : Bs → Bool) (l : List Bs) : List Bs := l.filter fun t => !p t
theorem nth_drop {x : List U} {j : Nat} {y : U} {r : List U} (h : x.drop j = y :: r) : U.nth x j = y := nth_at (Cur.of h).elem
theorem l24 {c : U} {l : List Bs} {p : Bs → Bool} (hl : l.length < 9223372036854775807) (hp : ∀ s ∈ l, Fi K c.fid ([.S s] ++ c.toL) = some (.B (p s))) : ∀ (r : List Bs) (j : Nat) (i : Nat) (z : Bool) (x : List U), l.drop j = r → x.length = l.length → i ≤ j → j ≤ l.length → x.take i = (keep p (l.take j)).map U.S → x.drop j = r.map U.S → 
    ∃ x' k, Lp K 24 0 ⟨[.B z, c, .I (i : Nat), .I (j : Nat)], [x]⟩ = some (.brk ⟨[.B z, .I ((k : Nat) : Int)], [x']⟩) ∧ k ≤ l.length ∧ x'.length = l.length ∧ x'.take k = (keep p l).map U.S
  | [], j, i, z, x, e, h1, h2, h3, h4, h5 => by
    have hj := drop_nil_ge e
    have g1 : ¬ ((j : Int) < ((x.length : Nat) : Int)) := by omega
    refine ⟨x, i, l24_0 _ _ _ _ _ (by simp only [g1, decide_false, cond_false]), by omega, h1, ?_⟩
    rw [h4, List.take_of_length_le hj]
  | s :: r, j, i, z, x, e, h1, h2, h3, h4, h5 => by
    have k := Cur.of e
    have hlt := k.lt
    have g1 : ((j : Int) < ((x.length : Nat) : Int)) := by omega
    have g2 : (0 : Int) ≤ (j : Int) := by omega
    have g3 : ((i : Int) < ((x.length : Nat) : Int)) := by omega
    have g4 : (0 : Int) ≤ (i : Int) := by omega
    have hx : U.nth x j = U.S s := nth_drop h5
    have hc := hp s (List.mem_of_getElem? k.elem)
    have hd : x.drop (j + 1) = r.map U.S := by
      rw [show x.drop (j + 1) = (x.drop j).drop 1 by rw [List.drop_drop], h5]; rfl
    cases hs : p s
    · have ht : (x.set i (U.S s)).take (i + 1) = (keep p (l.take (j + 1))).map U.S := by
        rw [List.take_add_one, List.getElem?_set_self (by omega), List.take_set_of_le (Nat.le_refl _), h4, k.take]
        simp [keep, hs]
      obtain ⟨x', k', a1, a2, a3, a4⟩ := l24 hl hp r (j + 1) (i + 1) z (x.set i (U.S s)) k.next (by rw [List.length_set]; exact h1) (by omega) (by omega) ht (by rw [List.drop_set_of_lt (by omega)]; exact hd)
      refine ⟨x', k', l24_0 _ _ _ _ _ ?_, a2, a3, a4⟩
      simp only [g1, g2, g3, g4, decide_true, cond_true, Bool.and_self, Int.toNat_natCast, Nat.zero_add, hx, toS_S, hc, Option.bind_some, toB_B, hs, Bool.not_false, loK, nth_zero, nth_succ, nthL_zero, toI_I, setUs_eq]
      rw [w64s (by omega), w64s (by omega)]
      exact a1
    · have ht : x.take i = (keep p (l.take (j + 1))).map U.S := by
        rw [h4, k.take]
        simp [keep, hs]
      obtain ⟨x', k', a1, a2, a3, a4⟩ := l24 hl hp r (j + 1) i z x k.next h1 (by omega) (by omega) ht hd
      refine ⟨x', k', l24_0 _ _ _ _ _ ?_, a2, a3, a4⟩
      simp only [g1, g2, decide_true, cond_true, Bool.and_self, Int.toNat_natCast, Nat.zero_add, hx, toS_S, hc, Option.bind_some, toB_B, hs, Bool.not_true, cond_false, loK, nth_zero, nth_succ, nthL_zero, toI_I]
      rw [w64s (by omega)]
      exact a1
theorem fidx_at (p : Bs → Bool) : ∀ l : List Bs, l.any p = true → ∃ k : Nat, fidx p l = (k : Nat) ∧ k < l.length ∧ keep p (l.take (k + 1)) = l.take k
  | [], h => by simp at h
  | s :: l, h => by
    rw [fidx_cons]
    cases hs : p s
    · rw [List.any_cons, hs, Bool.false_or] at h
      obtain ⟨k, k1, k2, k3⟩ := fidx_at p l h
      refine ⟨k + 1, by rw [h, cond_true, cond_false, k1]; omega, by simp; omega, ?_⟩
      rw [List.take_succ_cons, List.take_succ_cons, ← k3]
      simp [keep, hs]
    · exact ⟨0, rfl, by simp, by simp [keep, hs]⟩
theorem s24 {b : Bool} {c : U} {l : List Bs} {p : Bs → Bool} (hl : l.length < 8796093022208) (hp : ∀ s ∈ l, Fi K c.fid ([.S s] ++ c.toL) = some (.B (p s))) : ∃ z, Fi K 24 [.ofL b (l.map U.S), c] = some (.ofL z ((keep p l).map U.S)) := by
  have h37 : Fi K 37 [.ofL (b && (l.map U.S).isEmpty) (l.map U.S), c] = some (.I (fidx p l)) := s37 (Is.mk' _ _ _) (by omega) hp
  cases ha : l.any p
  · refine ⟨(b && (l.map U.S).isEmpty), e24 _ _ ?_⟩
    have hn : fidx p l = -1 := by
      cases l with
      | nil => rfl
      | cons s l =>
        rw [List.any_cons, Bool.or_eq_false_iff] at ha
        rw [fidx_cons, ha.1, ha.2]; rfl
    have hk : keep p l = l := by
      rw [keep, List.filter_eq_self]
      intro a h
      have := List.any_eq_false.1 ha a h
      simpa using this
    simp only [isNil_ofL', toL_ofL', h37, Option.bind_some, toI_I, hn, decide_true, cond_true, hk]
  · obtain ⟨k, k1, k2, k3⟩ := fidx_at p l ha
    obtain ⟨x', k', a1, a2, a3, a4⟩ := l24 (hl' hl) hp (l.drop (k + 1)) (k + 1) k b (l.map U.S) rfl (by simp) (by omega) (by omega) (by rw [k3, List.map_take]) (by rw [List.map_drop])
    refine ⟨(b && (spliceU x' k' (List.replicate ((x'.drop k').take (x'.length - k')).length (U.S []))).isEmpty), e24 _ _ ?_⟩
    have g1 : ¬ ((k : Int) = -1) := by omega
    have g2 : (0 : Int) ≤ (k' : Int) := by omega
    have g3 : ((k' : Int) ≤ ((x'.length : Nat) : Int)) := by omega
    have g4 : ((x'.length : Nat) : Int) ≤ ((x'.length : Nat) : Int) := by omega
    have g5 : ((k' : Int) ≤ (((spliceU x' k' (List.replicate ((x'.drop k').take (x'.length - k')).length (U.S []))).length : Nat) : Int)) := by
      have : k' ≤ (spliceU x' k' (List.replicate ((x'.drop k').take (x'.length - k')).length (U.S []))).length := by
        rw [spliceU, List.length_append, List.length_append, List.length_take]; omega
      omega
    simp only [isNil_ofL', toL_ofL', h37, Option.bind_some, toI_I, k1, g1, decide_false, cond_false]
    rw [w64s (by omega), a1]
    simp only [loK, Option.bind_some, nth_zero, nth_succ, nthL_zero, toI_I, toB_B, Int.toNat_natCast, Nat.zero_add, g2, g3, g4, g5, decide_true, Bool.and_self, cond_true, List.drop_zero, Nat.sub_zero]
    rw [show (spliceU x' k' (List.replicate ((x'.drop k').take (x'.length - k')).length (U.S []))).take k' = x'.take k' by
      rw [spliceU, List.append_assoc, List.take_append_of_le_length (by rw [List.length_take]; omega), List.take_take, Nat.min_self], a4]
where hl' {l : List Bs} (h : l.length < 8796093022208) : l.length < 9223372036854775807 := by omega

/-- the list is well made, from here on -/
def gd (l : List Bs) : Option Bs → List Bs → Bool
  | _, [] => true
  | q, s :: r => (isP s && (match q with | none => true | some q => Op.bytesLess q s)) && ((decide (par s = []) || has l (par s)) && gd l (some s) r)
theorem gd_cons (l : List Bs) (q : Option Bs) (s : Bs) (r : List Bs) : gd l q (s :: r) = ((isP s && (match q with | none => true | some q => Op.bytesLess q s)) && ((decide (par s = []) || has l (par s)) && gd l (some s) r)) := by cases q <;> rfl
def prev (l : List Bs) : Nat → Option Bs
  | 0 => none
  | j + 1 => l[j]?
theorem l10 {u : U} {l : List Bs} (hu : Is U.S u l) (hl : l.length < 8796093022208) (hb : ∀ s ∈ l, s.length ≤ 4194304) (a b : Int) : ∀ (r : List Bs) (i : Nat), l.drop i = r →
    ∃ o, Lp K 10 0 ⟨[u, .I a, .I b, u, .I (l.length : Nat), .I (i : Nat)], []⟩ = some o ∧ (gd l (prev l i) r = true → o = .brk ⟨[u, .I a, .I b], []⟩) ∧ (gd l (prev l i) r = false → ∃ c d, c ≠ 0 ∧ o = .ret (.ofL false [.I c, .I d]))
  | [], i, e => by
    have := drop_nil_ge e
    have h1 : ¬ ((i : Int) < (l.length : Int)) := by omega
    exact ⟨_, l10_0 _ _ _ _ _ _ (by simp only [h1, decide_false, cond_false]), fun _ => rfl, fun h => by cases h⟩
  | s :: r, i, e => by
    have k := Cur.of e
    have hlt := k.lt
    have h1 : ((i : Int) < (l.length : Int)) := by omega
    have h2 : (0 : Int) ≤ (i : Int) := by omega
    have hx := hu.get i s k.elem
    have hsl := hb s (List.mem_of_getElem? k.elem)
    obtain ⟨o, o1, o2, o3⟩ := l10 hu hl hb a b r (i + 1) k.next
    have hpv : prev l (i + 1) = some s := k.elem
    rw [hpv] at o2 o3
    rw [gd_cons]
    cases hP : isP s
    · refine ⟨_, l10_0 _ _ _ _ _ _ (by
        simp only [h1, h2, decide_true, cond_true, Bool.and_self, Int.toNat_natCast, hu.len, hx, toS_S, s15 hsl, hP, Option.bind_some, toB_B, Bool.not_false, s16]
        rfl), fun h => by simp at h, fun _ => ⟨10, i, by omega, rfl⟩⟩
    · -- the order
      have hw : ((decide ((0 : Int) ≤ IntKind.wrap .i64 ((i : Int) - 1)) && decide (IntKind.wrap .i64 ((i : Int) - 1) < ((l.length : Nat) : Int))) || (!decide ((0 : Int) < (i : Int)))) = true := by
        rw [w64 (by omega) (by omega)]
        by_cases hi : i = 0
        · subst hi; rfl
        · have a1 : (0 : Int) ≤ (i : Int) - 1 := by omega
          have a2 : (i : Int) - 1 < ((l.length : Nat) : Int) := by omega
          rw [decide_eq_true a1, decide_eq_true a2]; rfl
      have hq : (decide ((0 : Int) < (i : Int)) && !Op.bytesLess (u.get (IntKind.wrap .i64 ((i : Int) - 1)).toNat).toS s) = !(match prev l i with | none => true | some q => Op.bytesLess q s) := by
        cases i with
        | zero => rfl
        | succ j =>
          have a1 : (0 : Int) < ((j + 1 : Nat) : Int) := by omega
          have a2 : IntKind.wrap .i64 (((j + 1 : Nat) : Int) - 1) = (j : Int) := by rw [w64 (by omega) (by omega)]; omega
          obtain ⟨y, hy⟩ : ∃ y, l[j]? = some y := ⟨_, List.getElem?_eq_getElem (by omega)⟩
          rw [decide_eq_true a1, a2, Int.toNat_natCast, hu.get _ _ hy, show prev l (j + 1) = some y from hy]
          rfl
      generalize hm : (match prev l i with | none => true | some q => Op.bytesLess q s) = m at hq ⊢
      cases m
      · refine ⟨_, l10_0 _ _ _ _ _ _ (by
          simp only [h1, h2, decide_true, cond_true, Bool.and_self, Int.toNat_natCast, hu.len, hx, toS_S, s15 hsl, hP, Option.bind_some, toB_B, Bool.not_true, cond_false]
          rw [hw, hq]
          simp only [Bool.not_false, cond_true, s16, Option.bind_some]
          rfl), fun h => by simp at h, fun _ => ⟨19, i, by omega, rfl⟩⟩
      · by_cases hpe : par s = []
        · refine ⟨o, l10_0 _ _ _ _ _ _ (by
            simp only [h1, h2, decide_true, cond_true, Bool.and_self, Int.toNat_natCast, hu.len, hx, toS_S, s15 hsl, hP, Option.bind_some, toB_B, Bool.not_true, cond_false]
            rw [hw, hq]
            simp only [Bool.not_true, cond_true, cond_false, s23 hsl, Option.bind_some, toS_S, hpe, decide_true, Bool.false_and]
            rw [w64s (by omega)]
            exact o1), ?_, ?_⟩
          · rw [hpe]; simpa using o2
          · rw [hpe]; simpa using o3
        · have h17 := s17 (par s) hu (by omega)
          cases hh : has l (par s)
          · refine ⟨_, l10_0 _ _ _ _ _ _ (by
              simp only [h1, h2, decide_true, cond_true, Bool.and_self, Int.toNat_natCast, hu.len, hx, toS_S, s15 hsl, hP, Option.bind_some, toB_B, Bool.not_true, cond_false]
              rw [hw, hq]
              simp only [Bool.not_true, cond_true, cond_false, s23 hsl, Option.bind_some, toS_S, hpe, decide_false, Bool.not_false, h17, hh, toB_B, Bool.and_self, s16]
              rfl), fun h => by simp [hpe] at h, fun _ => ⟨6, i, by omega, rfl⟩⟩
          · refine ⟨o, l10_0 _ _ _ _ _ _ (by
              simp only [h1, h2, decide_true, cond_true, Bool.and_self, Int.toNat_natCast, hu.len, hx, toS_S, s15 hsl, hP, Option.bind_some, toB_B, Bool.not_true, cond_false]
              rw [hw, hq]
              simp only [Bool.not_true, cond_true, cond_false, s23 hsl, Option.bind_some, toS_S, hpe, decide_false, Bool.not_false, h17, hh, toB_B, Bool.and_false]
              rw [w64s (by omega)]
              exact o1), ?_, ?_⟩
            · simpa using o2
            · simpa using o3
def inbox : Bs := [105, 110, 98, 111, 120]
/-- a good list of folders -/
structure Val (l : List Bs) : Prop where
  len : l.length ≤ 100
  path : ∀ s ∈ l, isP s = true
  srt : Srt l
  par : ∀ s ∈ l, par s ≠ [] → par s ∈ l
  inb : inbox ∈ l
theorem gd_iff (l : List Bs) : ∀ (r : List Bs) (q : Option Bs), gd l q r = true ↔ (∀ s ∈ r, isP s = true) ∧ (match q with | none => Srt r | some q => Srt (q :: r)) ∧ (∀ s ∈ r, par s ≠ [] → par s ∈ l)
  | [], q => by cases q <;> simp [gd, Srt]
  | s :: r, q => by
    rw [gd_cons, Bool.and_eq_true, Bool.and_eq_true, Bool.and_eq_true, gd_iff l r (some s)]
    have e1 : ((decide (par s = []) || has l (par s)) = true) ↔ (par s ≠ [] → par s ∈ l) := by
      rw [Bool.or_eq_true, decide_eq_true_eq, has_iff]
      constructor
      · rintro (h | h) h'
        · exact absurd h h'
        · exact h
      · intro h
        by_cases h' : par s = []
        · exact .inl h'
        · exact .inr (h h')
    rw [e1]
    cases q with
    | none =>
      simp only [List.forall_mem_cons, true_and, and_true]
      constructor
      · rintro ⟨a, b, c, d, e⟩; exact ⟨⟨a, c⟩, d, b, e⟩
      · rintro ⟨⟨a, c⟩, d, b, e⟩; exact ⟨a, b, c, d, e⟩
    | some q =>
      simp only [List.forall_mem_cons]
      constructor
      · rintro ⟨⟨a, f⟩, b, c, d, e⟩
        refine ⟨⟨a, c⟩, List.pairwise_cons.2 ⟨fun t ht => ?_, d⟩, b, e⟩
        rcases List.mem_cons.1 ht with e' | e'
        · subst e'; exact f
        · exact bl_trans _ _ _ f ((List.pairwise_cons.1 d).1 t e')
      · rintro ⟨⟨a, c⟩, d, b, e⟩
        have := List.pairwise_cons.1 d
        exact ⟨⟨a, this.1 s (List.mem_cons_self ..)⟩, b, c, this.2, e⟩
theorem s10 {u : U} {l : List Bs} (hu : Is U.S u l) (hl : l.length < 8796093022208) (hb : ∀ s ∈ l, s.length ≤ 4194304) : ∃ c d, Fi K 10 [u] = some (.ofL false [.I c, .I d]) ∧ ((c = 0 ∧ d = 0 ∧ Val l) ∨ (c ≠ 0 ∧ ¬ Val l)) := by
  by_cases h100 : l.length ≤ 100
  · have g1 : ¬ ((100 : Int) < ((u.len : Nat) : Int)) := by rw [hu.len]; omega
    obtain ⟨o, o1, o2, o3⟩ := l10 hu hl hb 0 0 l 0 rfl
    have o1 : Lp K 10 0 ⟨[u, .I 0, .I 0, u, .I (l.length : Nat), .I 0], []⟩ = some o := o1
    have h17 := s17 [105, 110, 98, 111, 120] hu (by omega)
    have hg := gd_iff l l none
    cases hgd : gd l none l
    · obtain ⟨c, d, hc, rfl⟩ := o3 hgd
      refine ⟨c, d, e10 _ ?_, .inr ⟨hc, fun v => ?_⟩⟩
      · rw [decide_eq_false g1, cond_false, hu.len, o1]; rfl
      · rw [hg.2 ⟨v.path, v.srt, v.par⟩] at hgd; cases hgd
    · have := o2 hgd
      subst this
      obtain ⟨a1, a2, a3⟩ := hg.1 hgd
      cases hh : has l inbox
      · refine ⟨6, -2, e10 _ ?_, .inr ⟨by omega, fun v => ?_⟩⟩
        · rw [decide_eq_false g1, cond_false, hu.len, o1]
          simp only [loK, Option.bind_some, nth_zero, h17, show has l [105, 110, 98, 111, 120] = false from hh, toB_B, Bool.not_false, cond_true, s16]
          rfl
        · rw [has_iff.2 v.inb] at hh; cases hh
      · refine ⟨0, 0, e10 _ ?_, .inl ⟨rfl, rfl, h100, a1, a2, a3, has_iff.1 hh⟩⟩
        rw [decide_eq_false g1, cond_false, hu.len, o1]
        simp only [loK, Option.bind_some, nth_zero, h17, show has l [105, 110, 98, 111, 120] = true from hh, toB_B, Bool.not_true, cond_false]
  · have g1 : ((100 : Int) < ((u.len : Nat) : Int)) := by rw [hu.len]; omega
    refine ⟨2, -1, e10 _ ?_, .inr ⟨by omega, fun v => h100 v.len⟩⟩
    rw [decide_eq_true g1, cond_true, s16]
    rfl
end Go.Proofs.YtnahhhaicalmcaaDoor
end
