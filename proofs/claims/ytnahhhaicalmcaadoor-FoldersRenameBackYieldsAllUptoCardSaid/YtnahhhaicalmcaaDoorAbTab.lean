/- Tables: a context out of lists, and what of it can be asked of the program by the kernel. -/
import Derived.Test.YtnahhhaicalmcaaDoorAbLim
set_option linter.unusedVariables false
set_option linter.unusedSimpArgs false
namespace Go.Ab
open Go.RowKit

def assoc {α : Type} : List (Nat × α) → Nat → Option α
  | [], _ => none
  | (k, v) :: l, n => bif Nat.beq k n then some v else assoc l n
def assoc2 {α : Type} : List (Nat × Nat × α) → Nat → Nat → Option α
  | [], _, _ => none
  | (k, j, v) :: l, n, m => bif Nat.beq k n && Nat.beq j m then some v else assoc2 l n m
/-- types: number, description, cells, the longest row of such -/
structure Tab where
  tys : List (Nat × Ty × Nat × Nat)
  fns : List (Nat × Fn)
  lps : List (Nat × Nat × Tpl × Tpl)
  jns : List (Nat × Nat × Tpl)
  prs : List (Nat × ((Nat → List U → Option U) → List U → Option U))
  spl : List (Nat × Nat) := []
  its : List (Nat × List Nat) := []
  xfs : List (Nat × Fn) := []
def Tab.ctx (T : Tab) : Ctx where
  te t := match assoc T.tys t with | some (ty, _, _) => some ty | none => none
  sz t := match assoc T.tys t with | some (_, s, _) => s | none => 1
  lim t := match assoc T.tys t with | some (_, _, l) => l | none => 0
  fn g := assoc T.fns g
  loops g b := assoc2 T.lps g b
  joins g t := assoc2 T.jns g t
  prim g := assoc T.prs g
  iter g := assoc T.its g
  xfn g := assoc T.xfs g
  split g i := T.spl.any fun p => Nat.beq p.1 g && Nat.beq p.2 i
def fnOf (f : Func) (caps : List Nat) (own out : List (Option Bool)) : Fn :=
  { params := f.params.toList, caps := caps, res := f.results.toList, rts := f.resultTypes.toList, ntmps := f.ntmps, body := f.body.getD .skip, own := own, out := out }

/-- a function that works on the caller's memory -/
def fnX (f : Func) (caps : List Nat) (ti tu : Tpl) : Fn := { fnOf f caps [] [] with xt := some (ti, tu) }
/-- an iterator's closure: no results; what it would yield stands in their place -/
def fnIt (f : Func) (caps : List Nat) (r : Nat) : Fn := { fnOf f caps [] [] with rts := [r] }
theorem assoc_mem {α : Type} : ∀ {l : List (Nat × α)} {n : Nat} {v : α}, assoc l n = some v → (n, v) ∈ l
  | [], _, _, h => by cases h
  | (k, w) :: l, n, v, h => by
    simp only [assoc] at h
    cases hb : Nat.beq k n with
    | true => rw [hb] at h; cases h; rw [Nat.eq_of_beq_eq_true hb]; simp
    | false => rw [hb] at h; exact List.mem_cons_of_mem _ (assoc_mem h)

section
variable (P : Program) (C : Ctx)
def foffs : Nat → List Nat → List Nat
  | _, [] => []
  | o, f :: l => o :: foffs (o + C.sz f) l
def isPtrTy : Ty → Bool | .ptr _ => true | _ => false
def tyGood (t : Nat) : Bool := match C.te t with | some ty => !isPtrTy ty | none => false
def undB (t : Nat) (ty : Ty) : Bool :=
  match ty, P.underlying t with
  | .int k, some (.int k') => decide (k = k')
  | .bool, some .bool => true
  | .str, some .string => true
  | .sl e, some (.slice e') => Nat.beq e e'
  | .st fs, some (.struct fds) => (fds.toList.map (·.type) == fs) && (fds.toList.map (·.offset) == foffs C 0 fs) && fds.toList.all (fun f => f.name != "_") && !P.stoodInHeld t && !P.eqGuardType P.depth t
  | .fn _ _, some (.func ..) => true
  | .ptr _, _ => true
  | .map k v b, some (.map k' v') => Nat.beq k k' && Nat.beq v v' && (match C.te k, P.underlying k, C.te b with | some .str, some .string, some .bool => true | _, _, _ => false) &&
      (match C.te v, P.info? v with | some (.int kd), some i => (match i.zero with | some (.int kd' 0) => decide (kd = kd') | _ => false) | _, _ => false)
  | _, _ => false
def sizeB (t : Nat) (ty : Ty) : Bool := isPtrTy ty || (match P.info? t with | some i => Nat.beq i.size (C.sz t) | none => false)
def oneB (t : Nat) (ty : Ty) : Bool := match ty with
  | .st fs => Nat.beq (C.sz t) (fs.map C.sz).sum && Nat.blt 0 (C.sz t) && fs.all (tyGood C)
  | .sl e => Nat.beq (C.sz t) 1 && tyGood C e
  | _ => Nat.beq (C.sz t) 1
def tyB (t : Nat) (ty : Ty) : Bool := undB P C t ty && sizeB P C t ty && oneB C t ty
end
theorem foffs_get {C : Ctx} : ∀ (fs : List Nat) (o j : Nat), j < fs.length → (foffs C o fs)[j]? = some (o + ((fs.take j).map C.sz).sum)
  | [], _, _, h => by simp at h
  | f :: fs, o, 0, _ => by simp [foffs]
  | f :: fs, o, j + 1, h => by
    simp only [foffs, List.getElem?_cons_succ]
    rw [foffs_get fs (o + C.sz f) j (by simpa using h)]
    simp [Nat.add_assoc]

theorem Tab.ok {P : Program} {T : Tab} (hm : P.follows .mixedOrders = true) (h : T.tys.all (fun p => tyB P T.ctx p.1 p.2.1) = true) : CtxOk P T.ctx := by
  have key : ∀ t ty, T.ctx.te t = some ty → tyB P T.ctx t ty = true := by
    intro t ty ht
    have ht : (match assoc T.tys t with | some (ty, _, _) => some ty | none => none) = some ty := ht
    cases ha : assoc T.tys t with
    | none => rw [ha] at ht; cases ht
    | some p =>
      obtain ⟨ty', s, l⟩ := p
      rw [ha] at ht
      cases ht
      exact List.all_eq_true.1 h _ (assoc_mem ha)
  have good : ∀ t, tyGood T.ctx t = true → ∃ ty, T.ctx.te t = some ty ∧ ∀ e, ty ≠ .ptr e := by
    intro t ht
    unfold tyGood at ht
    cases hc : T.ctx.te t with
    | none => rw [hc] at ht; cases ht
    | some ty =>
      rw [hc] at ht
      refine ⟨ty, rfl, fun e he => ?_⟩
      subst he
      simp [isPtrTy] at ht
  have parts : ∀ t ty, T.ctx.te t = some ty → undB P T.ctx t ty = true ∧ sizeB P T.ctx t ty = true ∧ oneB T.ctx t ty = true := by
    intro t ty ht
    have := key t ty ht
    unfold tyB at this
    simp only [Bool.and_eq_true] at this
    exact ⟨this.1.1, this.1.2, this.2⟩
  refine ⟨?_, ?_, ?_, ?_, ?_, ?_, hm⟩
  · intro t ty ht
    have hu := (parts t ty ht).1
    unfold undB at hu
    split at hu <;> rename_i hq
    · simp only [decide_eq_true_eq] at hu; subst hu; simpa using hq
    · simpa using hq
    · simpa using hq
    · have := Nat.eq_of_beq_eq_true hu; subst this; simpa using hq
    · rename_i fs fds
      simp only [Bool.and_eq_true, beq_iff_eq, List.all_eq_true, Bool.not_eq_true'] at hu
      obtain ⟨⟨⟨⟨h1, h2⟩, h3⟩, h4⟩, h5⟩ := hu
      refine ⟨fds, hq, h1, fun j fd hj => ?_, h4, h5⟩
      have hjl : j < fds.size := (Array.getElem?_eq_some_iff.1 hj).1
      have hfs : fs.length = fds.size := by rw [← h1]; simp
      refine ⟨?_, ?_⟩
      · have h6 := foffs_get (C := T.ctx) fs 0 j (by omega)
        rw [← h2] at h6
        simp only [List.getElem?_map, Array.getElem?_toList, hj, Option.map_some, Option.some.injEq] at h6
        simpa using h6
      · have := h3 fd (by
          rw [← Array.mem_def]
          exact Array.mem_of_getElem? hj)
        simpa using this
    · exact ⟨_, _, _, hq⟩
    · trivial
    · rename_i k v b k' v'
      simp only [Bool.and_eq_true] at hu
      obtain ⟨⟨⟨h1, h2⟩, h3⟩, h4⟩ := hu
      have h1 := Nat.eq_of_beq_eq_true h1
      have h2 := Nat.eq_of_beq_eq_true h2
      subst h1; subst h2
      refine ⟨hq, ?_⟩
      split at h3
      · rename_i a1 a2 a3
        refine ⟨a1, a2, a3, ?_⟩
        split at h4
        · rename_i kd i b1 b2
          split at h4
          · rename_i kd' b3
            simp only [decide_eq_true_eq] at h4
            subst h4
            exact ⟨kd, i, b1, b2, b3⟩
          · cases h4
        · cases h4
      · cases h3
    · cases hu
  · intro t ty ht hn
    have hs := (parts t ty ht).2.1
    unfold sizeB at hs
    simp only [Bool.or_eq_true] at hs
    rcases hs with hs | hs
    · cases ty <;> simp [isPtrTy] at hs
      exact (hn _ rfl).elim
    · cases hi : P.info? t with
      | none => rw [hi] at hs; cases hs
      | some i => rw [hi] at hs; exact ⟨i, rfl, Nat.eq_of_beq_eq_true hs⟩
  · intro t ty ht hn
    have ho := (parts t ty ht).2.2
    unfold oneB at ho
    split at ho
    · exact (hn _ rfl).elim
    · simp only [Bool.and_eq_true] at ho; exact Nat.eq_of_beq_eq_true ho.1
    · exact Nat.eq_of_beq_eq_true ho
  · intro t fs ht
    have ho := (parts t _ ht).2.2
    simp only [oneB, Bool.and_eq_true] at ho
    exact ⟨Nat.eq_of_beq_eq_true ho.1.1, by have := Nat.le_of_ble_eq_true ho.1.2; omega⟩
  · intro t fs f ht hf
    have ho := (parts t _ ht).2.2
    simp only [oneB, Bool.and_eq_true, List.all_eq_true] at ho
    exact good f (ho.2 f hf)
  · intro t e ht
    have ho := (parts t _ ht).2.2
    simp only [oneB, Bool.and_eq_true] at ho
    exact good e ho.2

/-- the cells of a zero value -/
def zcells (C : Ctx) : Nat → Nat → List Value
  | 0, _ => []
  | d + 1, t => match C.te t with
    | some (.int k) => [.int k 0]
    | some .bool => [.bool false]
    | some .str => [.string ⟨#[]⟩]
    | some (.sl _) => [.slice none 0 0]
    | some (.st fs) => fs.flatMap (zcells C d)
    | _ => []
def eqZ : Value → Value → Bool
  | .int k n, .int k' m => decide (k = k') && decide (n = m)
  | .bool a, .bool b => a == b
  | .string s, .string s' => s.data.toList.isEmpty && s'.data.toList.isEmpty
  | .slice none 0 0, .slice none 0 0 => true
  | _, _ => false
theorem eqZ_eq {a b : Value} (h : eqZ a b = true) : a = b := by
  unfold eqZ at h
  split at h
  · simp only [Bool.and_eq_true, decide_eq_true_eq] at h; obtain ⟨rfl, rfl⟩ := h; rfl
  · simp only [beq_iff_eq] at h; subst h; rfl
  · rename_i s s'
    simp only [Bool.and_eq_true, List.isEmpty_iff] at h
    obtain ⟨⟨l⟩⟩ := s
    obtain ⟨⟨l'⟩⟩ := s'
    obtain ⟨h1, h2⟩ := h
    have h1 : l = [] := h1
    have h2 : l' = [] := h2
    subst h1; subst h2; rfl
  · rfl
  · cases h
def eqZs : List Value → List Value → Bool
  | [], [] => true
  | a :: l, b :: m => eqZ a b && eqZs l m
  | _, _ => false
theorem eqZs_eq : ∀ {l m : List Value}, eqZs l m = true → l = m
  | [], [], _ => rfl
  | a :: l, b :: m, h => by
    simp only [eqZs, Bool.and_eq_true] at h
    rw [eqZ_eq h.1, eqZs_eq h.2]
  | [], _ :: _, h => by cases h
  | _ :: _, [], h => by cases h
theorem zcells_rep {C : Ctx} (H : View) : ∀ (d t : Nat), zeroT C d t = true → Rep C H t (zcells C d t) (zeroU C d t)
  | 0, _, h => by cases h
  | d + 1, t, h => by
    simp only [zeroT, zcells, zeroU] at h ⊢
    cases ht : C.te t with
    | none => rw [ht] at h; cases h
    | some ty =>
      rw [ht] at h
      cases ty with
      | int k => exact .int (u := .I 0) ht
      | bool => exact .bool (u := .B false) ht
      | str => exact .str (u := .S []) ht
      | sl e => exact .nil ht rfl rfl
      | st fs =>
        simp only [List.all_eq_true] at h
        refine .st (fun j => zcells C d (nthN fs j)) ht (fun j hj => ?_) ?_
        · have hg : (U.ofL false (fs.map (zeroU C d))).get j = zeroU C d (nthN fs j) := by
            rw [get_ofL, nth_get, List.getElem?_map, nthN_get hj, List.getElem?_eq_getElem hj]; rfl
          rw [hg]
          exact zcells_rep H d _ (h _ (nthN_mem hj))
        · show fs.flatMap (zcells C d) = _
          conv => lhs; rw [show fs = (List.range fs.length).map (nthN fs) from by
            have := map_range_nthN fs id
            simpa using this.symm]
          rw [List.flatMap_map]
      | _ => cases h
def zeroB (P : Program) (C : Ctx) (t : Nat) : Bool := !zeroT C 20 t || (match P.info? t with | some i => (match i.zero with | some z => eqZs z.cells.toList (zcells C 20 t) | none => false) | none => false)
def zero1B (P : Program) (C : Ctx) (t : Nat) : Bool := match C.te t with
  | some (.fn _ _) | some (.map _ _ _) => (match P.info? t with
    | some i => (match i.zero with
      | some (.agg _) => false
      | some z => z.oneCell'
      | none => false)
    | none => false)
  | _ => true
theorem Tab.zok1 {P : Program} {T : Tab} (h : T.tys.all (fun p => zeroB P T.ctx p.1 && zero1B P T.ctx p.1) = true) : ∀ t, (match T.ctx.te t with | some (.fn _ _) | some (.map _ _ _) => True | _ => False) → ∃ i v, P.info? t = some i ∧ i.zero = some v ∧ v.cells = #[v] ∧ v.oneCell' = true := by
  intro t ht
  have key : zero1B P T.ctx t = true := by
    have hte : ∃ ty, T.ctx.te t = some ty := by
      cases hc : T.ctx.te t with
      | some ty => exact ⟨ty, rfl⟩
      | none => rw [hc] at ht; exact ht.elim
    obtain ⟨ty, ht⟩ := hte
    have ht : (match assoc T.tys t with | some (ty, _, _) => some ty | none => none) = some ty := ht
    cases ha : assoc T.tys t with
    | none => rw [ha] at ht; cases ht
    | some p =>
      have := List.all_eq_true.1 h _ (assoc_mem ha)
      simp only [Bool.and_eq_true] at this
      exact this.2
  have fin : (match P.info? t with
    | some i => (match i.zero with
      | some (.agg _) => false
      | some z => z.oneCell'
      | none => false)
    | none => false) = true → ∃ i v, P.info? t = some i ∧ i.zero = some v ∧ v.cells = #[v] ∧ v.oneCell' = true := by
    intro h
    cases hi : P.info? t with
    | none => rw [hi] at h; cases h
    | some i =>
      rw [hi] at h
      simp only at h
      cases hz : i.zero with
      | none => rw [hz] at h; cases h
      | some z =>
        rw [hz] at h
        cases z <;> first | exact ⟨i, _, rfl, hz, rfl, h⟩ | cases h
  unfold zero1B at key
  cases hc : T.ctx.te t with
  | none => rw [hc] at ht; exact ht.elim
  | some ty =>
    rw [hc] at ht key
    cases ty <;> first | exact fin key | exact ht.elim
theorem Tab.zok {P : Program} {T : Tab} (h : T.tys.all (fun p => zeroB P T.ctx p.1 && zero1B P T.ctx p.1) = true) : ZeroOk P T.ctx := by
  refine ⟨?_, Tab.zok1 h⟩
  intro t hz
  have hte : ∃ ty, T.ctx.te t = some ty := by
    cases hc : T.ctx.te t with
    | some ty => exact ⟨ty, rfl⟩
    | none => simp [zeroT, hc] at hz
  obtain ⟨ty, ht⟩ := hte
  have ht : (match assoc T.tys t with | some (ty, _, _) => some ty | none => none) = some ty := ht
  cases ha : assoc T.tys t with
  | none => rw [ha] at ht; cases ht
  | some p =>
    have := List.all_eq_true.1 h _ (assoc_mem ha)
    simp only [Bool.and_eq_true, zeroB, hz, Bool.not_true, Bool.false_or] at this
    replace this := this.1
    cases hi : P.info? t with
    | none => rw [hi] at this; cases this
    | some i =>
      rw [hi] at this
      simp only at this
      cases hzz : i.zero with
      | none => rw [hzz] at this; cases this
      | some z =>
        rw [hzz] at this
        exact ⟨i, z, rfl, hzz, fun H => by rw [eqZs_eq this]; exact zcells_rep H 20 t hz⟩
def limB (P : Program) (t l : Nat) : Bool := match P.info? t with | some i => Nat.ble l maxLen && Nat.ble (l * i.bytes) 140737488355328 | none => true
theorem Tab.lok {P : Program} {T : Tab} (h : T.tys.all (fun p => limB P p.1 p.2.2.2) = true) : LimOk P T.ctx := by
  intro e i hi
  show (match assoc T.tys e with | some (_, _, l) => l | none => 0) ≤ maxLen ∧ (match assoc T.tys e with | some (_, _, l) => l | none => 0) * i.bytes ≤ 140737488355328
  cases ha : assoc T.tys e with
  | none => simp
  | some p =>
    have := List.all_eq_true.1 h _ (assoc_mem ha)
    simp only [limB, hi, Bool.and_eq_true] at this
    exact ⟨Nat.le_of_ble_eq_true this.1, Nat.le_of_ble_eq_true this.2⟩

/-- a function of the program, as the table has it -/
def Fn1 (P : Program) (g : Nat) (fi : Fn) : Prop := ∃ fn, P.funcs[g]? = some fn ∧ fn.body = some fi.body ∧ fi.res = fn.results.toList ∧ fi.ntmps = fn.ntmps ∧ fn.name ≠ "runtime.NumGoroutine"
def FnsOk (P : Program) : List (Nat × Fn) → Prop
  | [] => True
  | (g, fi) :: l => Fn1 P g fi ∧ FnsOk P l
theorem FnsOk.mem {P : Program} : ∀ {l : List (Nat × Fn)}, FnsOk P l → ∀ {g : Nat} {fi : Fn}, (g, fi) ∈ l → Fn1 P g fi
  | [], _, _, _, hm => by cases hm
  | (g', fi') :: l, h, g, fi, hm => by
    rcases List.mem_cons.1 hm with e | hm
    · cases e; exact h.1
    · exact h.2.mem hm
theorem Tab.fok {P : Program} {T : Tab} (h : FnsOk P T.fns) (hx : FnsOk P T.xfs := by trivial) : FnOk P T.ctx := fun g _ _ hf => by
  unfold Ctx.fx at hf
  split at hf
  · rename_i fi' h1
    cases hf
    exact h.mem (assoc_mem h1)
  · exact hx.mem (assoc_mem hf)
theorem fn1 {P : Program} {g : Nat} {f : Func} {caps : List Nat} {own out : List (Option Bool)} (h : P.funcs[g]? = some f) (hb : f.body.isSome = true) (hn : (f.name == "runtime.NumGoroutine") = false) : Fn1 P g (fnOf f caps own out) := by
  refine ⟨f, h, ?_, rfl, rfl, fun e => by rw [e] at hn; simp at hn⟩
  cases hb' : f.body with
  | none => rw [hb'] at hb; cases hb
  | some c => simp [fnOf, hb']

theorem fn1x {P : Program} {g : Nat} {f : Func} {caps : List Nat} {ti tu : Tpl} (h : P.funcs[g]? = some f) (hb : f.body.isSome = true) (hn : (f.name == "runtime.NumGoroutine") = false) : Fn1 P g (fnX f caps ti tu) := by
  obtain ⟨fn, h1, h2, h3, h4, h5⟩ := fn1 (caps := caps) (own := []) (out := []) h hb hn
  exact ⟨fn, h1, h2, h3, h4, h5⟩
theorem fn1i {P : Program} {g : Nat} {f : Func} {caps : List Nat} {r : Nat} (h : P.funcs[g]? = some f) (hb : f.body.isSome = true) (hn : (f.name == "runtime.NumGoroutine") = false) : Fn1 P g (fnIt f caps r) := by
  obtain ⟨fn, h1, h2, h3, h4, h5⟩ := fn1 (caps := caps) (own := []) (out := []) h hb hn
  exact ⟨fn, h1, h2, h3, h4, h5⟩
/-- the loop whose exit leads out of this block -/
def loopIn : Code → Nat → Nat → Option Code
  | .seq a b, bid, k => match loopIn a bid k with | some c => some c | none => loopIn b bid k
  | .cond _ a b, bid, k => match loopIn a bid k with | some c => some c | none => loopIn b bid k
  | .block id c, _, k => loopIn c id k
  | .loop c, bid, k => bif Nat.beq bid k then some c else loopIn c bid k
  | .rangeFunc fo ps asg body, bid, k => bif Nat.beq bid k then some (.rangeFunc fo ps asg body) else none
  | _, _, _ => none
def loopCode (C : Ctx) (g bid : Nat) : Code := match C.fx g with
  | some fi => (loopIn fi.body 0 bid).getD .skip
  | none => .skip
noncomputable def Yp (C : Ctx) (g : Nat) (us : List U) (bid : Nat) (p : JP) : Option YR := Yl C g us bid (loopCode C g bid) p
theorem Yf_eq {C : Ctx} {g : Nat} {us : List U} {x : Option (List U)} {r : List U} (hp : C.prim g = none) (e : yfun C (Fi C) (fun bid c p => Yl C g us bid c p) g us = x) (h : x = some r) : Yf C g us = some r := Yf_of hp (e.trans h)
theorem Yp_eq {C : Ctx} {g : Nat} {us : List U} {bid : Nat} {p : JP} {x : Option YR} {o : YR} (e : yround C (Fi C) (fun bid c p => Yl C g us bid c p) g us bid (loopCode C g bid) p = x) (h : x = some o) : Yp C g us bid p = some o := Yl_of (e.trans h)
noncomputable def Lp (C : Ctx) (g bid : Nat) (p : JP) : Option LO := Li C g bid (loopCode C g bid) p
def loK {R : Type} (o : Option LO) (k : JP → Option R) (kr : U → Option R) : Option R := o.bind fun o => match o with | .brk q => k q | .ret u => kr u
theorem loK_brk {R : Type} {o : Option LO} {q : JP} {k : JP → Option R} {kr : U → Option R} (h : o = some (.brk q)) : loK o k kr = k q := by rw [h]; rfl
theorem loK_ret {R : Type} {o : Option LO} {u : U} {k : JP → Option R} {kr : U → Option R} (h : o = some (.ret u)) : loK o k kr = kr u := by rw [h]; rfl
@[simp] theorem loK_some_brk {R : Type} {q : JP} {k : JP → Option R} {kr : U → Option R} : loK (some (.brk q)) k kr = k q := rfl
@[simp] theorem loK_some_ret {R : Type} {u : U} {k : JP → Option R} {kr : U → Option R} : loK (some (.ret u)) k kr = kr u := rfl
theorem Fi_eq {C : Ctx} {g : Nat} {us : List U} {x : Option U} {r : U} (hp : C.prim g = none) (e : afun C (Fi C) (Yf C) (Li C g) g us = x) (h : x = some r) : Fi C g us = some r := Fi_of hp (e.trans h)
theorem Fx_eq {C : Ctx} {g : Nat} {us : List U} {x : Option U} {r : U} (hp : C.prim g = none) (hno : C.fn g = none) (e : axfun C (Fi C) (Yf C) (Li C g) g us = x) (h : x = some r) : Fi C g us = some r := Fx_of hp hno (e.trans h)
theorem Lp_eq {C : Ctx} {g bid : Nat} {p : JP} {x : Option LO} {o : LO} (e : around C (Fi C) (Yf C) (Li C g) g bid (loopCode C g bid) p = x) (h : x = some o) : Lp C g bid p = some o := Li_of (e.trans h)

/-- slices.Insert of one element -/
def insertU (lim : Nat) : List U → Option U
  | [s, i, v] => bif decide (0 ≤ i.toI) && decide (i.toI ≤ s.len) && Nat.beq v.len 1 && Nat.ble (s.len + 1) lim then some (U.ofL false (s.toL.take i.toI.toNat ++ v.get 0 :: s.toL.drop i.toI.toNat)) else none
  | _ => none
/-- slices.Grow of a nil slice -/
def growU (lim : Nat) : List U → Option U
  | [s, n] => bif s.isNil && decide (0 ≤ n.toI) && Nat.ble n.toI.toNat lim then some (bif decide (n.toI = 0) then U.nil else U.ofL false []) else none
  | _ => none
theorem H_retV {f : Fr} (hf : FrOk f) {w' : World} {X : Nat → Prop} (hX : ∀ b, X b → f.w0.heap.size ≤ b ∨ f.O b) : f.H.le (retV f w' X) := by
  intro b o v e
  have hlt : b < f.w0.heap.size := World.block_lt_of_cell? f.w0 _ (hf.le b o v e)
  have hO : ¬ f.O b := fun h => by rw [hf.own b o h] at e; cases e
  unfold retV
  rw [if_neg (fun h => by rcases hX b h with h | h; omega; exact hO h), if_pos ⟨hlt, hO⟩]
  exact e

end Go.Ab
