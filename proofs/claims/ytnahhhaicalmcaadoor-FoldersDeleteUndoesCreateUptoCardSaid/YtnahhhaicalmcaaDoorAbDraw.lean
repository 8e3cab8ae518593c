/- Drawn regions: operations may come in many orders. What a larger store changes: nothing. -/
import Derived.Test.YtnahhhaicalmcaaDoorAbRegion
set_option linter.unusedVariables false
set_option linter.unusedSimpArgs false
namespace Go.Ab
open Go.RowKit
variable {C : Ctx} {P : Program}

def SLe (S S' : Sto) : Prop := ∀ id b, S id = some b → S' id = some b
section
variable {st st' : St} (h : SLe st.sto st'.sto)
include h
theorem capT_mono {c : Cap} {t : Nat} (k : capT st c = some t) : capT st' c = some t := by
  cases c with
  | ro t' u => exact k
  | own id =>
    simp only [capT] at k ⊢
    cases hs : st.sto id with
    | none => simp [hs] at k
    | some b => rw [h _ _ hs]; rw [hs] at k; exact k
theorem capTs_mono : ∀ {cs : List Cap} {ts : List Nat}, capTs st cs = some ts → capTs st' cs = some ts
  | [], _, k => k
  | c :: cs, ts, k => by
    simp only [capTs] at k ⊢
    cases hc : capT st c with
    | none => simp [hc] at k
    | some t =>
      cases hcs : capTs st cs with
      | none => simp [hc, hcs] at k
      | some ts' => rw [capT_mono h hc, capTs_mono hcs]; rw [hc, hcs] at k; exact k
theorem eltOf_mono {x : AV} {e : Nat} (k : eltOf st x = some e) : eltOf st' x = some e := by
  cases x with
  | ow id r =>
    simp only [eltOf] at k ⊢
    cases hs : st.sto id with
    | none => simp [hs] at k
    | some b => rw [h _ _ hs]; rw [hs] at k; exact k
  | _ => exact k
theorem fitsArg_mono {t : Nat} {x : AV} (k : fitsArg C st t x = true) : fitsArg C st' t x = true := by
  cases ht : C.te t with
  | none => cases x <;> simp [fitsArg, ht, fitsT] at k
  | some ty =>
    cases x with
    | ow id r =>
      cases ty with
      | sl e =>
        simp only [fitsArg, ht] at k ⊢
        cases he : eltOf st (.ow id r) with
        | none => simp [he] at k
        | some e' => rw [eltOf_mono h he]; rw [he] at k; exact k
      | _ => simp [fitsArg, ht, fitsT] at k
    | clo f caps =>
      cases ty with
      | fn ps r =>
        simp only [fitsArg, ht] at k ⊢
        cases hf : C.fn f with
        | none => simp [hf] at k
        | some fi =>
          cases hc : capTs st caps with
          | none => simp [hf, hc] at k
          | some ts => rw [capTs_mono h hc]; rw [hf, hc] at k; exact k
      | _ => simp [fitsArg, ht, fitsT] at k
    | _ => cases ty <;> first | exact k | (simp [fitsArg, ht, fitsT] at k; done) | (simp only [fitsArg, ht] at k ⊢; exact k)
theorem fitsArgs_mono : ∀ {ts : List Nat} {xs : List AV}, fitsArgs C st ts xs = true → fitsArgs C st' ts xs = true
  | [], [], k => k
  | t :: ts, x :: xs, k => by
    simp only [fitsArgs, Bool.and_eq_true] at k ⊢
    exact ⟨fitsArg_mono h k.1, fitsArgs_mono k.2⟩
  | [], _ :: _, k => by simp [fitsArgs] at k
  | _ :: _, [], k => by simp [fitsArgs] at k
theorem toU_mono {x : AV} {u : U} (k : x.toU st = some u) : x.toU st' = some u := by
  cases x with
  | ow id r =>
    simp only [AV.toU] at k ⊢
    cases hs : st.sto id with
    | none => simp [hs] at k
    | some b => rw [h _ _ hs]; rw [hs] at k; exact k
  | _ => exact k
theorem toUs_mono : ∀ {xs : List AV} {us : List U}, toUs st xs = some us → toUs st' xs = some us
  | [], _, k => k
  | x :: xs, us, k => by
    simp only [toUs] at k ⊢
    cases hx : x.toU st with
    | none => simp [hx] at k
    | some u =>
      cases hxs : toUs st xs with
      | none => simp [hx, hxs] at k
      | some us' => rw [toU_mono h hx, toUs_mono hxs]; rw [hx, hxs] at k; exact k
theorem boxU_mono {t : Nat} {vs : List AV} {u : U} (k : boxU C st t vs = some u) : boxU C st' t vs = some u := by
  unfold boxU at k ⊢
  split at k
  · obtain ⟨hc, k⟩ := cond_some k
    simp only [Option.map_eq_some_iff] at k
    obtain ⟨us, hus, rfl⟩ := k
    rw [fitsArgs_mono h hc, toUs_mono h hus]; rfl
  · split at k
    · obtain ⟨hc, k⟩ := cond_some k
      simp only [fitsArg_mono h hc, cond_true]
      exact toU_mono h k
    · cases k
  · cases k
theorem capUs_mono : ∀ {cs : List Cap} {us : List U}, capUs C st cs = some us → capUs C st' cs = some us
  | [], _, k => k
  | .ro t u :: cs, us, k => by
    simp only [capUs, Option.map_eq_some_iff] at k ⊢
    obtain ⟨us', k, rfl⟩ := k
    exact ⟨us', capUs_mono k, rfl⟩
  | .own id :: cs, us, k => by
    simp only [capUs] at k ⊢
    cases hs : st.sto id with
    | none => simp [hs] at k
    | some b =>
      rw [h _ _ hs]
      rw [hs] at k
      cases b with
      | box t vs =>
        cases hc : capUs C st cs with
        | none => simp [hc] at k
        | some us' =>
          simp only [hc, Option.map_eq_some_iff] at k
          obtain ⟨u, hu, rfl⟩ := k
          rw [capUs_mono hc]
          simp [boxU_mono h hu]
      | _ => simp at k
theorem argU_mono {x : AV} {u : U} (k : argU C st x = some u) : argU C st' x = some u := by
  cases x with
  | clo f caps =>
    simp only [argU, Option.map_eq_some_iff] at k ⊢
    obtain ⟨us, k, rfl⟩ := k
    exact ⟨us, capUs_mono h k, rfl⟩
  | _ => simp only [argU] at k ⊢; exact toU_mono h k
theorem argUs_mono : ∀ {xs : List AV} {us : List U}, argUs C st xs = some us → argUs C st' xs = some us
  | [], _, k => k
  | x :: xs, us, k => by
    simp only [argUs] at k ⊢
    cases hx : argU C st x with
    | none => simp [hx] at k
    | some u =>
      cases hxs : argUs C st xs with
      | none => simp [hx, hxs] at k
      | some us' => rw [argU_mono h hx, argUs_mono hxs]; rw [hx, hxs] at k; exact k
theorem nilOf_mono {x : AV} {z : Bool} (k : nilOf st x = some z) : nilOf st' x = some z := by
  cases x with
  | ow id r =>
    cases r with
    | some p => simp [nilOf] at k
    | none =>
      simp only [nilOf] at k ⊢
      cases hs : st.sto id with
      | none => simp [hs] at k
      | some b => rw [h _ _ hs]; rw [hs] at k; exact k
  | _ => exact k
theorem slen_mono {x : AV} {n : Nat} (k : slen st x = some n) : slen st' x = some n := by
  cases x with
  | ow id r =>
    cases r with
    | some p =>
      obtain ⟨o, n'⟩ := p
      simp only [slen] at k ⊢
      cases hs : st.sto id with
      | none => simp [hs] at k
      | some b => rw [h _ _ hs]; rw [hs] at k; exact k
    | none =>
      simp only [slen] at k ⊢
      cases hs : st.sto id with
      | none => simp [hs] at k
      | some b => rw [h _ _ hs]; rw [hs] at k; exact k
  | _ => exact k
theorem aload_mono {t : Nat} {x v : AV} (k : aload C st t x = some v) : aload C st' t x = some v := by
  unfold aload at k ⊢
  cases hp : isPtr C t with
  | true => rw [hp] at k; simp at k
  | false =>
    rw [hp] at k
    simp only [cond_false] at k ⊢
    cases x with
    | pb id p =>
      simp only at k ⊢
      cases hs : st.sto id with
      | none => simp [hs] at k
      | some b => rw [h _ _ hs]; rw [hs] at k; exact k
    | pe id i p =>
      simp only at k ⊢
      cases hs : st.sto id with
      | none => simp [hs] at k
      | some b => rw [h _ _ hs]; rw [hs] at k; exact k
    | _ => exact k
theorem abin_mono {op : BinOp} {t : Nat} {x y : AV} {r : Bool × AV} (k : abin C st op t x y = some r) : abin C st' op t x y = some r := by
  unfold abin at k ⊢
  split at k
  · exact k
  · exact k
  · exact k
  · exact k
  · split at k
    · rename_i a1 a2 a3
      simp only [a1, nilOf_mono h a2, a3]
      exact k
    · cases k
  · cases k
end

/-- the operands' values are the same -/
def SameOn (ev ev' : Operand → AV) (o : Op) : Prop := ∀ x ∈ o.operands, ev' x = ev x

theorem apure_mono {st st' : St} (h : SLe st.sto st'.sto) {ev ev' : Operand → AV} {o : Op} (he : SameOn ev ev' o) {r : Bool × AV} (k : apure C st ev o = some r) : apure C st' ev' o = some r := by
  cases o with
  | move x => simp only [apure] at k ⊢; rw [he x (by simp [Op.operands])]; exact k
  | assign x => simp only [apure] at k ⊢; rw [he x (by simp [Op.operands])]; exact k
  | binOp op t x y yt => simp only [apure] at k ⊢; rw [he x (by simp [Op.operands]), he y (by simp [Op.operands])]; exact abin_mono h k
  | load t x =>
    simp only [apure] at k ⊢; rw [he x (by simp [Op.operands])]
    simp only [Option.map_eq_some_iff] at k ⊢
    obtain ⟨v, k, rfl⟩ := k
    exact ⟨v, aload_mono h k, rfl⟩
  | unOp op t x => simp only [apure] at k ⊢; rw [he x (by simp [Op.operands])]; exact k
  | field t x j => simp only [apure] at k ⊢; rw [he x (by simp [Op.operands])]; exact k
  | extract x j => simp only [apure] at k ⊢; rw [he x (by simp [Op.operands])]; exact k
  | index t x i => simp only [apure] at k ⊢; rw [he x (by simp [Op.operands]), he i (by simp [Op.operands])]; exact k
  | fieldAddr t x j =>
    simp only [apure] at k ⊢; rw [he x (by simp [Op.operands])]
    split at k
    · exact k
    · rename_i id p a1 a2
      cases hs : st.sto id with
      | none => simp [hs] at k
      | some b => rw [h _ _ hs]; rw [hs] at k; exact k
    · rename_i id i p a1 a2
      cases hs : st.sto id with
      | none => simp [hs] at k
      | some b => rw [h _ _ hs]; rw [hs] at k; exact k
    · cases k
  | indexAddr t x i =>
    simp only [apure] at k ⊢; rw [he x (by simp [Op.operands]), he i (by simp [Op.operands])]
    split at k
    · exact k
    · rename_i id r' _ n e' a1 a2 a3
      cases hs : st.sto id with
      | none => simp [hs] at k
      | some b => rw [h _ _ hs]; rw [hs] at k; exact k
    · cases k
  | pick c a b =>
    cases c with
    | tmp tc =>
      simp only [apure] at k ⊢
      rw [he (.tmp tc) (by simp [Op.operands]), he a (by simp [Op.operands]), he b (by simp [Op.operands])]
      exact k
    | _ => simp [apure] at k
  | convert t1 t2 x =>
    simp only [apure] at k ⊢; rw [he x (by simp [Op.operands])]
    split at k
    · exact k
    · exact k
    · split at k
      · rename_i a1 a2
        obtain ⟨hc, k⟩ := cond_some k
        simp only [a1, toU_mono h a2, fitsArg_mono h hc, cond_true]
        exact k
      · cases k
    · cases k
  | slice t x lo hi mx =>
    cases mx with
    | some m => simp [apure] at k
    | none =>
      have e0 : ev' x = ev x := he x (by simp [Op.operands])
      have e1 : optI ev' lo = optI ev lo := by
        cases lo with
        | none => rfl
        | some l => simp only [optI]; rw [he l (by simp [Op.operands])]
      have e2 : optI ev' hi = optI ev hi := by
        cases hi with
        | none => rfl
        | some l => simp only [optI]; rw [he l (by simp [Op.operands])]
      simp only [apure] at k ⊢
      rw [e0, e1, e2]
      split at k
      · exact k
      · exact k
      · exact k
      · rename_i e' id r' l hh a1 a2 a3 a4
        cases hs : st.sto id with
        | none => simp [hs] at k
        | some b => rw [h _ _ hs]; rw [hs] at k; exact k
      · cases k
  | makeFunc fn first caps =>
    cases fn with
    | func f =>
      have e : caps.toList.map ev' = caps.toList.map ev := List.map_congr_left fun x hx => he x (by simp [Op.operands]; exact .inr (by simpa using hx))
      simp only [apure] at k ⊢
      rw [e]
      split at k
      · rename_i cs fi a1 a2 a3
        cases hc : capTs st cs with
        | none => simp [hc] at k
        | some ts => rw [capTs_mono h hc]; rw [hc] at k; exact k
      · cases k
    | _ => simp [apure] at k
  | build t parts =>
    have hx : ∀ p ∈ parts.toList, ev' p.2 = ev p.2 := fun p hp => he p.2 (by simp only [Op.operands]; simp; exact ⟨p.1, by simpa using hp⟩)
    have e : (parts.toList.map fun p => ev' p.2) = parts.toList.map fun p => ev p.2 := List.map_congr_left fun p hp => hx p hp
    have e2 : ∀ fs : List Nat, (parts.toList.all fun p => decide (p.1 < fs.length) && fitsT C (nthN fs p.1) (ev' p.2)) = parts.toList.all fun p => decide (p.1 < fs.length) && fitsT C (nthN fs p.1) (ev p.2) := by
      intro fs
      generalize parts.toList = l at hx
      induction l with
      | nil => rfl
      | cons p l ih => simp only [List.all_cons]; rw [hx p (by simp), ih (fun q hq => hx q (by simp [hq]))]
    simp only [apure] at k ⊢
    rw [e]
    split at k
    · rename_i fs us a1 a2
      rw [e2]
      exact k
    · cases k
  | call c =>
    simp only [apure] at k ⊢
    have e : c.args.toList.map ev' = c.args.toList.map ev := List.map_congr_left fun x hx => he x (by simp only [Op.operands, Call.operands]; cases c.callee <;> simp <;> first | exact .inr (by simpa using hx) | simpa using hx)
    rw [e]
    split at k
    · rename_i x a1 a2
      obtain ⟨hc, k2⟩ := cond_some k
      clear k
      rw [hc]
      simp only [cond_true, Option.map_eq_some_iff] at k2 ⊢
      obtain ⟨n, k3, k4⟩ := k2
      exact ⟨n, slen_mono h k3, k4⟩
    · exact k
    · exact k
    · cases k
  | lookup t m ix b =>
    cases b with
    | false => simp [apure] at k
    | true =>
      simp only [apure] at k ⊢
      rw [he m (by simp [Op.operands]), he ix (by simp [Op.operands])]
      split at k
      · rename_i kt vt bt id x a1 a2 a3
        cases hs : st.sto id with
        | none => simp [hs] at k
        | some b =>
          rw [hs] at k
          simp only [a1, a2, a3, h _ _ hs]
          exact k
      · cases k
  | _ => simp [apure] at k

theorem layR_none {st : St} {r : U} {d : Nat} : ∀ {os : List (Option Bool)} {ts : List Nat} {j : Nat}, os.all Option.isNone = true → layR C st r d os ts j = some (st, ts.map fun t => (t, none))
  | os, [], j, _ => rfl
  | [], t :: ts, j, h => by simp [layR, hd0, layR_none (os := []) (ts := ts) (j := j + 1) rfl]
  | o :: os, t :: ts, j, h => by
    simp at h
    simp [layR, hd0, h.1, layR_none (os := os) (ts := ts) (j := j + 1) (by simpa using h.2)]

/-- the value that a call of a function without own results leaves -/
def readV (C : Ctx) (fi : Fn) (r : U) : AV := match fi.rts with
  | [] => .junk
  | [t] => ofU C t r
  | ts => .tup (ts.map fun t => (t, none)) r
theorem retOf_none {st : St} {fi : Fn} {d : Option Nat} {r : U} (h : fi.out.all Option.isNone = true) : retOf C st fi d r = some (st.put d (readV C fi r)) := by
  unfold retOf readV
  match hr : fi.rts, d with
  | [], d => rfl
  | [t], some d => simp [hd0_none h]
  | [t], none => rfl
  | t :: t' :: ts, some d => simp only [layR_none h, Option.map_some]
  | t :: t' :: ts, none => rfl

theorem callF_read {F : Nat → List U → Option U} {st : St} {g : Nat} {caps : List Cap} {as : List AV} {d : Option Nat} {x : Option U} {k : U → Option St} {fi : Fn} (hfi : C.fn g = some fi) (ho : fi.own.all Option.isNone = true) (hu : fi.out.all Option.isNone = true)
    (h : callF C F true st g caps as d = some (x, k)) : ∀ st', SLe st.sto st'.sto → ∃ k', callF C F true st' g caps as d = some (x, k') ∧ ∀ r, k' r = some (st'.put d (readV C fi r)) := by
  intro st' hle
  unfold callF at h ⊢
  simp only [hfi] at h ⊢
  obtain ⟨hc, h2⟩ := cond_some h
  clear h
  simp only [Bool.and_eq_true] at hc
  obtain ⟨⟨⟨⟨⟨⟨c1, c2⟩, c3⟩, c4⟩, c5⟩, c6⟩, c7⟩ := hc
  have c7' : ∃ ts, capTs st' caps = some ts ∧ (ts == fi.caps) = true := by
    cases hts : capTs st caps with
    | none => rw [hts] at c7; simp at c7
    | some ts => rw [hts] at c7; exact ⟨ts, capTs_mono hle hts, c7⟩
  obtain ⟨ts, c8, c9⟩ := c7'
  rw [selOwns_none ho] at c3 c4 h2
  rw [fitsArgs_mono hle c1, ownOk_none ho, selOwns_none ho, c3, c4, c5, c6.1, c8]
  simp only [List.isEmpty_nil, Bool.true_or]
  simp only [c9, Bool.and_self, cond_true]
  have hfr : ∀ s : St, (bif aliasF C fi then freezes C s (selOwns false fi.own as) else some s) = some s := by
    intro s
    cases ha : aliasF C fi with
    | false => rfl
    | true =>
      rw [ha, ho] at c5
      simp at c5
      rw [c5]; rfl
  rw [hfr] at h2 ⊢
  cases hus : argUs C st as with
  | none => rw [hus] at h2; simp at h2
  | some us =>
    cases hcs : capUs C st caps with
    | none => rw [hus, hcs] at h2; simp at h2
    | some cs =>
      rw [hus, hcs] at h2
      simp only [Option.some.injEq, Prod.mk.injEq] at h2
      obtain ⟨rfl, _⟩ := h2
      rw [argUs_mono hle hus, capUs_mono hle hcs]
      exact ⟨_, rfl, fun r => retOf_none hu⟩

theorem callV_read {F : Nat → List U → Option U} {st : St} {t : Nat} {u : U} {as : List AV} {d : Option Nat} {x : Option U} {k : U → Option St}
    (h : callV C F st t u as d = some (x, k)) : ∃ rt : Nat, ∀ st', SLe st.sto st'.sto → ∃ k', callV C F st' t u as d = some (x, k') ∧ ∀ r, k' r = some (st'.put d (ofU C rt r)) := by
  unfold callV at h
  cases hte : C.te t with
  | none => simp [hte] at h
  | some ty =>
    cases ty with
    | fn ps rt =>
      simp only [hte] at h
      obtain ⟨hc, h2⟩ := cond_some h
      clear h
      simp only [Bool.and_eq_true] at hc
      cases hus : argUs C st as with
      | none => simp [hus] at h2
      | some us =>
        simp only [hus, Option.some.injEq, Prod.mk.injEq] at h2
        obtain ⟨rfl, _⟩ := h2
        refine ⟨rt, fun st' hle => ⟨fun r => some (st'.put d (ofU C rt r)), ?_, fun r => rfl⟩⟩
        unfold callV
        simp only [hte, fitsArgs_mono hle hc.1, hc.2, Bool.and_self, cond_true, argUs_mono hle hus]
    | _ => simp [hte] at h

end Go.Ab
