/- Small facts for the plain laws; what comes in, in its plain form. -/
import Derived.Test.YtnahhhaicalmcaaDoorAbRow
set_option linter.unusedVariables false
set_option linter.unusedSimpArgs false
namespace Go.Ab

theorem w64 {n : Int} (h1 : -9223372036854775808 ≤ n) (h2 : n ≤ 9223372036854775807) : IntKind.wrap .i64 n = n := by
  simp [IntKind.wrap, IntKind.signed, IntKind.bits]; omega
theorem w64n {n : Nat} (h : n ≤ 9223372036854775807) : IntKind.wrap .i64 (n : Int) = n := w64 (by omega) (by omega)
theorem w64s {n : Nat} (h : n < 9223372036854775807) : IntKind.wrap .i64 ((n : Int) + 1) = ((n + 1 : Nat) : Int) := by rw [w64 (by omega) (by omega)]; omega
theorem drop_getD {α : Type} {l : List α} {i : Nat} (d : α) (h : i < l.length) : l.drop i = l.getD i d :: l.drop (i + 1) := by
  rw [List.drop_eq_getElem_cons h]
  simp [List.getD, h]
theorem drop_toL {u : U} {i : Nat} (h : i < u.len) : u.toL.drop i = u.get i :: u.toL.drop (i + 1) := by
  rw [drop_getD (.I 0) (by rw [toL_len]; exact h)]
  congr 1
  have := toL_get u i h
  rw [List.getD, this]
  rfl
theorem u8_lt (c : UInt8) : (c.toNat : Int) < 256 := by have := c.toNat_lt; omega
@[simp] theorem toI_I (n : Int) : (U.I n).toI = n := rfl
@[simp] theorem toB_B (b : Bool) : (U.B b).toB = b := rfl
@[simp] theorem toS_S (s : List UInt8) : (U.S s).toS = s := rfl
@[simp] theorem get_ofL' (b : Bool) (xs : List U) (i : Nat) : (U.ofL b xs).get i = U.nth xs i := rfl
@[simp] theorem nth_zero (x : U) (xs : List U) : U.nth (x :: xs) 0 = x := rfl
@[simp] theorem nth_succ (x : U) (xs : List U) (n : Nat) : U.nth (x :: xs) (n + 1) = U.nth xs n := rfl
@[simp] theorem nthL_zero (x : List U) (xs : List (List U)) : nthL (x :: xs) 0 = x := rfl
@[simp] theorem nthL_succ (x : List U) (xs : List (List U)) (n : Nat) : nthL (x :: xs) (n + 1) = nthL xs n := rfl
@[simp] theorem isNil_ofL' (b : Bool) (xs : List U) : (U.ofL b xs).isNil = b := rfl
@[simp] theorem len_ofL' (b : Bool) (xs : List U) : (U.ofL b xs).len = xs.length := rfl
@[simp] theorem toL_ofL' (b : Bool) (xs : List U) : (U.ofL b xs).toL = xs := toL_ofL b xs
@[simp] theorem toL_nil' : U.nil.toL = [] := rfl
@[simp] theorem len_nil' : U.nil.len = 0 := rfl
@[simp] theorem isNil_nil' : U.nil.isNil = true := rfl

/-- a slice of data: its elements are what the list has -/
structure Is {α : Type} (f : α → U) (u : U) (l : List α) : Prop where
  len : u.len = l.length
  get : ∀ i x, l[i]? = some x → u.get i = f x
theorem nth_at {xs : List U} {i : Nat} {x : U} (h : xs[i]? = some x) : U.nth xs i = x := by
  induction xs generalizing i with
  | nil => simp at h
  | cons y ys ih =>
    cases i with
    | zero => simp at h; exact h
    | succ i => simp at h; exact ih h
theorem Is.mk' {α : Type} (f : α → U) (b : Bool) (l : List α) : Is f (U.ofL b (l.map f)) l := ⟨by simp, fun i x h => by
  show U.nth (l.map f) i = f x
  exact nth_at (by simp [h])⟩
theorem Is.sub {α : Type} {f : α → U} {u : U} {l : List α} (h : Is f u l) {n : Nat} (hn : n ≤ l.length) : Is f (u.sub 0 n) (l.take n) := ⟨by simp [U.sub, U.len, hn], fun i x hx => by
  rw [List.getElem?_take] at hx
  split at hx
  · show u.get (0 + i) = f x
    rw [Nat.zero_add]; exact h.get i x hx
  · cases hx⟩
theorem Is.toL {α : Type} {f : α → U} {u : U} {l : List α} (h : Is f u l) : u.toL = l.map f := by
  refine List.ext_getElem? fun i => ?_
  rw [List.getElem?_map]
  rcases Nat.lt_or_ge i l.length with hi | hi
  · have hx : l[i]? = some l[i] := List.getElem?_eq_getElem hi
    have := toL_get u i (by rw [h.len]; exact hi)
    rw [this, hx, h.get i _ hx]; rfl
  · rw [List.getElem?_eq_none hi, List.getElem?_eq_none (by rw [toL_len, h.len]; exact hi)]; rfl
theorem Is.nil {α : Type} (f : α → U) : Is f U.nil [] := ⟨rfl, fun i x h => by simp at h⟩

/-- a place in a list -/
structure Cur {α : Type} (l : List α) (i : Nat) (x : α) (r : List α) : Prop where
  lt : i < l.length
  next : l.drop (i + 1) = r
  elem : l[i]? = some x
theorem Cur.of {α : Type} {l : List α} {i : Nat} {x : α} {r : List α} (h : l.drop i = x :: r) : Cur l i x r := by
  have hlt : i < l.length := by
    rcases Nat.lt_or_ge i l.length with h' | h'
    · exact h'
    · rw [List.drop_eq_nil_of_le h'] at h; cases h
  rw [List.drop_eq_getElem_cons hlt] at h
  cases h
  exact ⟨hlt, rfl, List.getElem?_eq_getElem hlt⟩
theorem Cur.take {α : Type} {l : List α} {i : Nat} {x : α} {r : List α} (h : Cur l i x r) : l.take (i + 1) = l.take i ++ [x] := by
  rw [List.take_add_one, h.elem]; rfl
theorem Cur.getD {α : Type} {l : List α} {i : Nat} {x : α} {r : List α} (h : Cur l i x r) (d : α) : l.getD i d = x := by rw [List.getD, h.elem]; rfl
theorem drop_nil_ge {α : Type} {l : List α} {i : Nat} (h : l.drop i = []) : l.length ≤ i := by
  rcases Nat.lt_or_ge i l.length with h' | h'
  · rw [List.drop_eq_getElem_cons h'] at h; cases h
  · exact h'

/-- data in their plain form -/
def cn (C : Ctx) : Nat → Nat → U → U
  | 0, _, u => u
  | d + 1, t, u => match C.te t with
    | some (.int _) => .I u.toI
    | some .bool => .B u.toB
    | some .str => .S u.toS
    | some (.sl e) => .ofL u.isNil ((List.range u.len).map fun i => cn C d e (u.get i))
    | some (.st fs) => .ofL false ((List.range fs.length).map fun j => cn C d (nthN fs j) (u.get j))
    | _ => u
theorem nth_rangeMap {n i : Nat} (f : Nat → U) (h : i < n) : U.nth ((List.range n).map f) i = f i := nth_at (by simp [h])
theorem rep_cn {C : Ctx} {H : View} : ∀ (d t : Nat) (cs : List Value) (u : U), Rep C H t cs u → Rep C H t cs (cn C d t u)
  | 0, _, _, _, h => h
  | d + 1, t, cs, u, h => by
    unfold cn
    cases h with
    | int h => rw [h]; exact .int (u := .I u.toI) h
    | bool h => rw [h]; exact .bool (u := .B u.toB) h
    | str h => rw [h]; exact .str (u := .S u.toS) h
    | nil h h0 hn => rw [h]; exact .nil (u := .ofL u.isNil _) h (by simp [h0]) hn
    | @sl _ e _ a cap cs h hn hc ha hr =>
      rw [h]
      have : (U.ofL u.isNil ((List.range u.len).map fun i => cn C d e (u.get i))).len = u.len := by simp
      have key : Rep C H t [.slice (some a) (U.ofL u.isNil ((List.range u.len).map fun i => cn C d e (u.get i))).len cap] (U.ofL u.isNil ((List.range u.len).map fun i => cn C d e (u.get i))) := by
        refine .sl (a := a) (u := .ofL u.isNil _) cs h hn (by rw [this]; exact hc) (fun i hi => ha i (by rw [this] at hi; exact hi)) (fun i hi => ?_)
        rw [this] at hi
        rw [get_ofL', nth_rangeMap _ hi]
        exact rep_cn d _ _ _ (hr i hi)
      rw [this] at key
      exact key
    | @st _ fs _ _ cs h hr hl =>
      rw [h]
      refine .st (u := .ofL false _) cs h (fun j hj => ?_) hl
      rw [get_ofL', nth_rangeMap _ hj]
      exact rep_cn d _ _ _ (hr j hj)
    | fn ad cs h hf hp hr ho hu hl ha hc => rw [h]; exact .fn ad cs h hf hp hr ho hu hl ha hc
    | ptr cs h hs ha hr => rw [h]; exact .ptr cs h hs ha hr
theorem args_cn {C : Ctx} {f : Fr} : ∀ {ts : List Nat} {us : List U} {vs : List Value}, ArgsL C f [] ts us vs → ArgsL C f [] ts ((List.range ts.length).map fun j => cn C 20 (nthN ts j) (U.nth us j)) vs
  | [], us, vs, h => by
    cases us <;> cases vs <;> simp_all [ArgsL]
  | t :: ts, us, vs, h => by
    match us, vs, h with
    | u :: us, v :: vs, h =>
      obtain ⟨⟨cs, a, b⟩, h2⟩ := h
      rw [List.length_cons, List.range_succ_eq_map, List.map_cons, List.map_map]
      exact ⟨⟨cs, a, rep_cn 20 _ _ _ b⟩, args_cn h2⟩
end Go.Ab
