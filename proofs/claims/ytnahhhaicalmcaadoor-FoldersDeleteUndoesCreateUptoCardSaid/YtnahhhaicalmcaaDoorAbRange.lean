/- A range over a function whose values are known ahead: what an iterator promises, and the statement over it. -/
import Derived.Test.YtnahhhaicalmcaaDoorAbIn
import Derived.Test.YtnahhhaicalmcaaDoorAbImp
import Derived.RangeFuncIn
import Derived.RangeFuncRecord
import Derived.RangeFuncOwn
set_option linter.unusedVariables false
set_option linter.unusedSimpArgs false
namespace Go.Ab
open Go.RowKit
variable {C : Ctx} {P : Program}

/-- values that an iterator hands over -/
def Yld (C : Ctx) (H : View) (ts : List Nat) (x : U) (vs : List Value) : Prop :=
  vs.length = ts.length ∧ ∀ j, j < ts.length → ∃ cs, IsVal C (nthN ts j) (vs.getD j undef) cs ∧ Rep C H (nthN ts j) cs (x.get j)
/-- new blocks alone -/
abbrev Adds (A B : World) : Prop := Keep (fun _ => False) A B
theorem Adds.alloc (W : World) (o : Obj) : Adds W (W.alloc o) :=
  ⟨rfl, rfl, rfl, by simp, Nat.le_refl _, fun k hk _ => Below.heap_alloc W o k hk⟩
theorem Adds.heap {A B : World} (h : Adds A B) {k : Nat} {o : Obj} (hk : A.heap[k]? = some o) : B.heap[k]? = some o :=
  (h.block k (Array.getElem?_eq_some_iff.1 hk).1 (fun x => x)).trans hk
/-- what is seen at W1, once the blocks of before W0 are seen by H -/
noncomputable def upV (H : View) (W0 W1 : World) : View := fun b o => if b < W0.heap.size then H b o else W1.cell? ⟨b, o, none⟩
/-- what an iterator does that yields 'items' -/
def Iter (P : Program) (C : Ctx) (H : View) (ts : List Nat) (items : List U) (g : Nat) (lb : List Value) : Prop :=
  ∀ (l : Nat) (J : Nat → World → Prop) (Jx : World → Prop) (W : World),
    (∀ k A B, J k A → Adds A B → J k B) → (∀ A B, Jx A → Adds A B → Jx B) → (∀ k A, J k A → H.le (World.view A)) → (∀ A, Jx A → H.le (World.view A)) →
    (∀ k x W0 W1 vs, items[k]? = some x → J k W0 → Adds W0 W1 → Yld C (upV H W0 W1) ts x vs →
      YieldAt (Rd none) 0 P l vs.toArray W1 fun e W' => (e = .returned (.bool true) ∧ J (k + 1) W') ∨ (e = .returned (.bool false) ∧ Jx W')) →
    J 0 W → CallsIn (Rd none) 0 P g (#[.func (.yield l) #[] #[]] ++ lb.toArray) W fun e W' => (∃ v, e = .returned v) ∧ (J items.length W' ∨ Jx W')

/-- how the body of a round may be left -/
def RoundEnd (L D : Nat) (R : Obj) (In : World → Prop) (Ix : Nat → World → Prop) : Exit → Act → World → Prop
  | .normal, _, W => W.heap[L]? = some R ∧ W.heap[D]? = some (.deferred (some [])) ∧ In W
  | .exit id, _, W => W.heap[L]? = some R ∧ W.heap[D]? = some (.deferred (some [])) ∧ Ix id W
  | _, _, _ => False

theorem range_law {fo : Operand} {ps : Array Tmp} {asg body : Code} {Q : Exit → Act → World → Prop} {a : Act} {w : World} {g : Nat} {lb : List Value}
    (he : a.eval fo = .func (.func g) #[] lb.toArray) (eg : ∀ args w, (callFunc g args).run P w = .ok (.enter g args) w)
    {H : View} {ts : List Nat} {items : List U} (hit : Iter P C H ts items g lb) (hps : ps.size = ts.length)
    (I : Nat → World → Prop) (Ix : Nat → World → Prop) (hI : ∀ k A B, I k A → Adds A B → I k B) (hIx : ∀ k A B, Ix k A → Adds A B → Ix k B) (hH : ∀ k A, I k A → H.le (World.view A)) (hHx : ∀ k A, Ix k A → H.le (World.view A))
    (tI : ∀ k A l r r', I k A → w.heap.size ≤ l → A.heap[l]? = some (.loop r) → I k (A.putObj l (.loop r')))
    (tIx : ∀ k A l r r', Ix k A → w.heap.size ≤ l → A.heap[l]? = some (.loop r) → Ix k (A.putObj l (.loop r')))
    (h0 : I 0 w)
    (hround : ∀ (k : Nat) (x : U) (vs : List Value) (W0 W : World) (r r' : Loop), items[k]? = some x → Yld C (upV H W0 W) ts x vs → I k W0 → Adds W0 W → W.heap[w.heap.size + 1]? = some (.loop r) → W.heap[w.heap.size]? = some (.deferred (some [])) →
      asg.wpIn (Rd (some (w.heap.size + 1))) 0 P (Exit.then (fun a1 W1 => W1.heap[w.heap.size + 1]? = some (.loop r) ∧ body.wpIn (Rd (some (w.heap.size + 1))) 0 P (RoundEnd (w.heap.size + 1) w.heap.size (.loop r') (I (k + 1)) Ix) a1 (W1.putObj (w.heap.size + 1) (.loop r'))) (fun _ _ _ => False))
        { tmps := (ps.zip vs.toArray).foldl (fun t (p, v) => t.setIfInBounds p v) a.tmps, defers := [] } W)
    (hdone : ∀ W, I items.length W → W.heap[w.heap.size]? = some (.deferred (some [])) → Q .normal { a with defers := { target := .collected w.heap.size, args := #[] } :: a.defers } W)
    (hstop : ∀ id W, Ix id W → W.heap[w.heap.size]? = some (.deferred (some [])) → Q (.exit id) { a with defers := { target := .collected w.heap.size, args := #[] } :: a.defers } W) :
    (Code.rangeFunc fo ps asg body).wpIn (Rd none) 0 P Q a w := by
  refine wpIn_rangeFunc fun fn hfn => ?_
  let rec' : LoopState → Option Code → Loop := fun st pe => { state := st, pending := pe, fn, tmps := a.tmps, params := ps, assign := asg, body, defers := w.heap.size }
  let W1 := (w.alloc (.deferred (some []))).alloc (.loop (rec' .ready none))
  have a1 : Adds w (w.alloc (.deferred (some []))) := .alloc _ _
  have a2 : Adds (w.alloc (.deferred (some []))) W1 := .alloc _ _
  have hL : W1.heap[w.heap.size + 1]? = some (.loop (rec' .ready none)) := by
    have := World.alloc_heap_new (w.alloc (.deferred (some []))) (.loop (rec' .ready none))
    rwa [World.size_alloc] at this
  have hD : W1.heap[w.heap.size]? = some (.deferred (some [])) := a2.heap (World.alloc_heap_new w _)
  refine ⟨w.heap.size + 1, [{ target := .collected w.heap.size, args := #[] }], W1, { target := .fn (.func g) lb.toArray, args := #[.func (.yield (w.heap.size + 1)) #[] #[]] }, W1, g,
    #[.func (.yield (w.heap.size + 1)) #[] #[]] ++ lb.toArray, W1, run_enterLoop_outer _ _ _ _ _, ?_, fun _ _ => trivial, ?_, fun h => (nomatch h), ?_⟩
  · simp only [resolve, he]
    simp [go_sem]
  · simp [invoke, go_sem, eg]
  · refine (hit (w.heap.size + 1) (fun k W => I k W ∧ W.heap[w.heap.size + 1]? = some (.loop (rec' .ready none)) ∧ W.heap[w.heap.size]? = some (.deferred (some [])))
      (fun W => ∃ id, Ix id W ∧ W.heap[w.heap.size + 1]? = some (.loop (rec' .done (some (.exit id)))) ∧ W.heap[w.heap.size]? = some (.deferred (some []))) W1
      (fun k A B h hab => ⟨hI k A B h.1 hab, hab.heap h.2.1, hab.heap h.2.2⟩) (fun A B ⟨id, h1, h2, h3⟩ hab => ⟨id, hIx id A B h1 hab, hab.heap h2, hab.heap h3⟩) (fun k A h => hH k A h.1) (fun A ⟨id, h, _⟩ => hHx id A h) ?_
      ⟨hI _ _ _ (hI _ _ _ h0 a1) a2, hL, hD⟩).mono ?_
    · rintro k x W0 W vs hx ⟨i1, i2', i3'⟩ hab hy
      have i2 := hab.heap i2'
      have i3 := hab.heap i3'
      refine ⟨fn, _, asg, body, run_yield i2 (by simpa [rec'] using hy.1.trans hps.symm), roundIn_of_wpIn hfn (wpIn_mono (hround k x vs W0 W _ (rec' .busy none) hx hy i1 hab i2 i3) ?_)⟩
      intro e a3 W3 h3
      cases e with
      | normal =>
        obtain ⟨k1, k2⟩ := h3
        refine ⟨_, run_beginRound k1 rfl, wpIn_mono k2 ?_⟩
        intro e a4 W4 h4
        cases e with
        | normal =>
          obtain ⟨m1, m2, m3⟩ := h4
          refine ⟨_, _, run_endRound none m1, .inl ⟨rfl, tI _ _ _ _ _ m3 (by omega) m1, World.putObj_heap_same (Array.getElem?_eq_some_iff.1 m1).1, (World.putObj_heap_other (by omega)).trans m2⟩⟩
        | exit id =>
          obtain ⟨m1, m2, m3⟩ := h4
          refine ⟨_, _, run_endRound (some (.exit id)) m1, .inr ⟨rfl, id, tIx _ _ _ _ _ m3 (by omega) m1, World.putObj_heap_same (Array.getElem?_eq_some_iff.1 m1).1, (World.putObj_heap_other (by omega)).trans m2⟩⟩
        | _ => exact h4.elim
      | _ => exact h3.elim
    · rintro e W2 ⟨⟨v, rfl⟩, ⟨i1, i2, i3⟩ | ⟨id, i1, i2, i3⟩⟩
      · exact ⟨none, _, run_endLoop i2 (by simp [rec']), hdone _ (tI _ _ _ _ _ i1 (by omega) i2) ((World.putObj_heap_other (by omega)).trans i3)⟩
      · exact ⟨some (.exit id), _, run_endLoop i2 (by simp [rec']), wpIn_exit (hstop id _ (tIx _ _ _ _ _ i1 (by omega) i2) ((World.putObj_heap_other (by omega)).trans i3))⟩
end Go.Ab
