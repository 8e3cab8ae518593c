/- A sort by a comparison that is asked of the evaluator. -/
import Derived.Test.YtbppeodcnkghpaaAbTab
set_option linter.unusedVariables false
set_option linter.unusedSimpArgs false
namespace Go.Ab

/-- what a comparison says of two elements -/
def cmpF (F : Nat → List U → Option U) (f x y : U) : Int := ((F f.fid ([x, y] ++ f.toL)).getD (.I 0)).toI
def ltF (F : Nat → List U → Option U) (f x y : U) : Bool := decide (cmpF F f x y < 0)
/-- the elements can be told apart, and put in order -/
structure Sortable (F : Nat → List U → Option U) (f : U) (xs : List U) : Prop where
  some : ∀ i j, i < xs.length → j < xs.length → (F f.fid ([U.nth xs i, U.nth xs j] ++ f.toL)).isSome = true
  irr : ∀ i, i < xs.length → ltF F f (U.nth xs i) (U.nth xs i) = false
  trans : ∀ i j k, i < xs.length → j < xs.length → k < xs.length → ltF F f (U.nth xs i) (U.nth xs j) = true → ltF F f (U.nth xs j) (U.nth xs k) = true → ltF F f (U.nth xs i) (U.nth xs k) = true
  total : ∀ i j, i < xs.length → j < xs.length → ltF F f (U.nth xs i) (U.nth xs j) = false → ltF F f (U.nth xs j) (U.nth xs i) = false → i = j
  short : xs.length < 4611686018427387904
/-- the comparison, and what is sorted, as the call is handed them -/
def srtC (us : List U) : U := U.nth (decJ us).us 1
def srtX (us : List U) : List U := nthL (decJ us).ls 0
open Classical in
/-- slices.SortFunc -/
noncomputable def sortF (F : Nat → List U → Option U) (us : List U) : Option U :=
  if Sortable F (srtC us) (srtX us) then
    some (U.ofL false [U.ofL false [], U.ofL false [U.nth (decJ us).us 0], U.ofL false [U.ofL false ((srtX us).mergeSort fun x y => !ltF F (srtC us) y x)]])
  else none
theorem ev_all {P : Nat → Nat → Prop} : ∀ n, (∀ i, i < n → ∃ N, ∀ m, N ≤ m → P i m) → ∃ N, ∀ m, N ≤ m → ∀ i, i < n → P i m
  | 0, _ => ⟨0, fun m _ i hi => by omega⟩
  | n + 1, h => by
    obtain ⟨N, hN⟩ := ev_all n fun i hi => h i (by omega)
    obtain ⟨N', hN'⟩ := h n (by omega)
    refine ⟨max N N', fun m hm i hi => ?_⟩
    by_cases e : i = n
    · subst e; exact hN' m (by omega)
    · exact hN m (by omega) i (by omega)
theorem nth_mem {xs : List U} {x : U} (h : x ∈ xs) : ∃ i, i < xs.length ∧ U.nth xs i = x := by
  obtain ⟨i, hi, e⟩ := List.mem_iff_getElem.1 h
  exact ⟨i, hi, by rw [nth_get]; simp [hi, e]⟩
theorem sort_agree {F F' : Nat → List U → Option U} {f : U} {xs : List U} (h : ∀ i j, i < xs.length → j < xs.length → F' f.fid ([U.nth xs i, U.nth xs j] ++ f.toL) = F f.fid ([U.nth xs i, U.nth xs j] ++ f.toL)) :
    (xs.mergeSort fun x y => !ltF F' f y x) = xs.mergeSort fun x y => !ltF F f y x := by
  have := List.map_mergeSort (r := fun x y => !ltF F' f y x) (s := fun x y => !ltF F f y x) (f := id) (l := xs) (fun a ha b hb => by
    obtain ⟨i, hi, rfl⟩ := nth_mem ha
    obtain ⟨j, hj, rfl⟩ := nth_mem hb
    unfold ltF cmpF
    rw [h j i hj hi]
    rfl)
  rw [List.map_id, List.map_id] at this
  exact this
theorem Sortable.agree {F F' : Nat → List U → Option U} {f : U} {xs : List U} (S : Sortable F f xs) (h : ∀ i j, i < xs.length → j < xs.length → F' f.fid ([U.nth xs i, U.nth xs j] ++ f.toL) = F f.fid ([U.nth xs i, U.nth xs j] ++ f.toL)) : Sortable F' f xs := by
  have hl : ∀ i j, i < xs.length → j < xs.length → ltF F' f (U.nth xs i) (U.nth xs j) = ltF F f (U.nth xs i) (U.nth xs j) := fun i j hi hj => by
    unfold ltF cmpF
    rw [h i j hi hj]
  refine ⟨fun i j hi hj => by rw [h i j hi hj]; exact S.some i j hi hj, fun i hi => by rw [hl i i hi hi]; exact S.irr i hi, fun i j k hi hj hk => ?_, fun i j hi hj => ?_, S.short⟩
  · rw [hl i j hi hj, hl j k hj hk, hl i k hi hk]; exact S.trans i j k hi hj hk
  · rw [hl i j hi hj, hl j i hj hi]; exact S.total i j hi hj
theorem sortF_ev {F : Nat → List U → Option U} {us : List U} {r : U} (h : sortF F us = some r) (Fs : Nat → Nat → List U → Option U) (hF : ∀ g us r, F g us = some r → Ev (fun m => Fs m g us) r) : Ev (fun m => sortF (Fs m) us) r := by
  unfold sortF at h
  split at h
  · rename_i S
    have key : ∃ N, ∀ m, N ≤ m → ∀ i, i < (srtX us).length → ∀ j, j < (srtX us).length → Fs m (srtC us).fid ([U.nth (srtX us) i, U.nth (srtX us) j] ++ (srtC us).toL) = F (srtC us).fid ([U.nth (srtX us) i, U.nth (srtX us) j] ++ (srtC us).toL) := by
      refine ev_all _ fun i hi => ev_all _ fun j hj => ?_
      obtain ⟨v, hv⟩ := Option.isSome_iff_exists.1 (S.some i j hi hj)
      obtain ⟨N, hN⟩ := hF _ _ _ hv
      exact ⟨N, fun m hm => (hN m hm).trans hv.symm⟩
    obtain ⟨N, hN⟩ := key
    refine ⟨N, fun m hm => ?_⟩
    have ha : ∀ i j, i < (srtX us).length → j < (srtX us).length → _ := fun i j hi hj => hN m hm i hi j hj
    show sortF (Fs m) us = some r
    unfold sortF
    rw [if_pos (S.agree ha), sort_agree ha]
    exact h
  · cases h
end Go.Ab
