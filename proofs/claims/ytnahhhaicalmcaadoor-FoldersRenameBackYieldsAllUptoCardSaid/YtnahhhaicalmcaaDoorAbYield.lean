/- What an iterator's own code does, by data: it yields what the evaluator says. -/
import Derived.Test.YtnahhhaicalmcaaDoorAbRange
import Derived.Test.YtnahhhaicalmcaaDoorAbDraw4
import Derived.Test.YtnahhhaicalmcaaDoorAbIn
set_option linter.unusedVariables false
set_option linter.unusedSimpArgs false
namespace Go.Ab
open Go.RowKit
variable {C : Ctx} {P : Program}

def Clear (S : Nat → Prop) (c : Code) : Prop := ∀ t, S t → wrC c t = false
theorem Clear.seq {S : Nat → Prop} {a b : Code} (h : Clear S (.seq a b)) : Clear S a ∧ Clear S b :=
  ⟨fun t ht => (Bool.or_eq_false_iff.1 (show (wrC a t || wrC b t) = false from h t ht)).1, fun t ht => (Bool.or_eq_false_iff.1 (show (wrC a t || wrC b t) = false from h t ht)).2⟩
theorem Clear.cond {S : Nat → Prop} {x : Operand} {a b : Code} (h : Clear S (.cond x a b)) : Clear S a ∧ Clear S b :=
  ⟨fun t ht => (Bool.or_eq_false_iff.1 (show (wrC a t || wrC b t) = false from h t ht)).1, fun t ht => (Bool.or_eq_false_iff.1 (show (wrC a t || wrC b t) = false from h t ht)).2⟩
theorem Clear.ops {S : Nat → Prop} {id : Nat} {ops : Array Oper} {draw : Bool} (h : Clear S (.region id ops draw)) : ∀ o ∈ ops.toList, ∀ t, S t → o.dst ≠ some t := fun o ho t ht e => by
  have := List.any_eq_false.1 (show (ops.toList.any fun o => o.dst == some t) = false from h t ht) o ho
  simp [e] at this

theorem Clear.block {S : Nat → Prop} {id : Nat} {c : Code} (h : Clear S (.block id c)) : Clear S c := h
theorem Clear.loop {S : Nat → Prop} {c : Code} (h : Clear S (.loop c)) : Clear S c := h
/-- the frame of an iterator between two rounds -/
def itFr (H : View) (W : World) : Fr := ⟨H, W, fun _ => False, fun _ _ => False⟩
theorem itFr_ok {H : View} {W : World} (h : H.le (World.view W)) : FrOk (itFr H W) := ⟨h, fun _ _ h => h.elim, fun _ h => h.elim, fun _ _ h => h.elim⟩
/-- what an iterator's walk is about: the loop's record, what is seen, the caller's two invariants, what is to be yielded, its types, what was captured -/
structure Yi where
  l : Nat
  H : View
  J : Nat → World → Prop
  Jx : World → Prop
  items : List U
  ts : List Nat
  us : List U
  lb : List Value
/-- it goes on, and so many have come; or it has been told to stop -/
def Yi.M (y : Yi) : Option Nat → World → Prop
  | some k, W => y.J k W
  | none, W => y.Jx W
def adv (m : Option Nat) (n : Nat) : Option Nat := m.map (· + n)
def Yi.Pre (y : Yi) : Option Nat → YR → Prop
  | some k, r => ∃ tl, y.items.drop k = r.items ++ tl
  | none, r => r.items = []
def Rel (m : Option Nat) (r : YR) (m' : Option Nat) (r' : YR) : Prop :=
  (∃ c, r.items = c ++ r'.items ∧ r'.out = r.out ∧ m' = adv m c.length) ∨ (m' = none ∧ r' = ⟨[], none⟩)
theorem adv_zero (m : Option Nat) : adv m 0 = m := by cases m <;> rfl
theorem adv_add (m : Option Nat) (a b : Nat) : adv (adv m a) b = adv m (a + b) := by cases m <;> simp [adv, Nat.add_assoc]
theorem Rel.refl (m : Option Nat) (r : YR) : Rel m r m r := .inl ⟨[], rfl, rfl, (adv_zero m).symm⟩
theorem Rel.trans {m m' m'' : Option Nat} {r r' r'' : YR} (h : Rel m r m' r') (k : Rel m' r' m'' r'') : Rel m r m'' r'' := by
  rcases k with ⟨c', k1, k2, k3⟩ | k
  · rcases h with ⟨c, h1, h2, h3⟩ | ⟨h1, h2⟩
    · exact .inl ⟨c ++ c', by rw [h1, k1, List.append_assoc], k2.trans h2, by rw [k3, h3, adv_add, List.length_append]⟩
    · subst h1 h2
      have e := (List.append_eq_nil_iff.1 k1.symm)
      refine .inr ⟨by rw [k3]; rfl, ?_⟩
      obtain ⟨i, o⟩ := r''
      simp_all
  · exact .inr k
theorem Rel.stop (m : Option Nat) (r : YR) : Rel m r none ⟨[], none⟩ := .inr ⟨rfl, rfl⟩
theorem Yi.Pre.rel {y : Yi} {m m' : Option Nat} {r r' : YR} (h : y.Pre m r) (k : Rel m r m' r') : y.Pre m' r' := by
  rcases k with ⟨c, k1, k2, rfl⟩ | ⟨rfl, rfl⟩
  · cases m with
    | none =>
      have h : r.items = [] := h
      rw [h] at k1
      exact (List.append_eq_nil_iff.1 k1.symm).2
    | some k =>
      obtain ⟨tl, h⟩ := h
      refine ⟨tl, ?_⟩
      show y.items.drop (k + c.length) = _
      rw [← List.drop_drop, h, k1, List.append_assoc, List.drop_left]
  · exact rfl
/-- what the caller promises, and what was captured -/
structure YOk (P : Program) (C : Ctx) (y : Yi) (fi : Fn) : Prop where
  one : fi.params.length = 1
  hJ : ∀ k A B, y.J k A → Adds A B → y.J k B
  hJx : ∀ A B, y.Jx A → Adds A B → y.Jx B
  hH : ∀ k A, y.J k A → y.H.le (World.view A)
  hHx : ∀ A, y.Jx A → y.H.le (World.view A)
  round : ∀ k x W0 W1 vs, y.items[k]? = some x → y.J k W0 → Adds W0 W1 → Yld C (upV y.H W0 W1) y.ts x vs →
      YieldAt (Rd none) 0 P y.l vs.toArray W1 fun e W' => (e = .returned (.bool true) ∧ y.J (k + 1) W') ∨ (e = .returned (.bool false) ∧ y.Jx W')
  caps : CapsL C y.H fi.caps y.us y.lb
def Yi.yv (y : Yi) : Value := .func (.yield y.l) #[] #[]
/-- what the slots hold all the way -/
structure AInv (y : Yi) (a : Act) : Prop where
  defers : a.defers = []
  yld : tmOf a 0 = y.yv
  caps : ∀ j, j < y.lb.length → tmOf a (1 + j) = y.lb.getD j undef
def S0 (fi : Fn) (t : Nat) : Prop := t < 1 + fi.caps.length
theorem YOk.le {y : Yi} {fi : Fn} (yo : YOk P C y fi) {m : Option Nat} {W : World} (h : y.M m W) : y.H.le (World.view W) := by
  cases m with
  | none => exact yo.hHx _ h
  | some k => exact yo.hH k _ h
theorem YOk.adds {y : Yi} {fi : Fn} (yo : YOk P C y fi) {m : Option Nat} {A B : World} (h : y.M m A) (k : Adds A B) : y.M m B := by
  cases m with
  | none => exact yo.hJx _ _ h k
  | some n => exact yo.hJ n _ _ h k
theorem capsL_len {H : View} : ∀ {ts : List Nat} {us : List U} {vs : List Value}, CapsL C H ts us vs → us.length = ts.length ∧ vs.length = ts.length
  | [], [], [], _ => ⟨rfl, rfl⟩
  | t :: ts, u :: us, v :: vs, k => by obtain ⟨a, b⟩ := capsL_len k.2; exact ⟨by simp [a], by simp [b]⟩
  | [], _ :: _, _, k => k.elim
  | [], [], _ :: _, k => k.elim
  | _ :: _, [], _, k => k.elim
  | _ :: _, _ :: _, [], k => k.elim
theorem AInv.alike {y : Yi} {fi : Fn} (yo : YOk P C y fi) {a a' : Act} (h : AInv y a) (k : Alike (S0 fi) a a') (hd : a'.defers = a.defers) : AInv y a' := by
  have hl := (capsL_len yo.caps).2
  refine ⟨hd.trans h.defers, (k.2 0 (by unfold S0; omega)).trans h.yld, fun j hj => (k.2 (1 + j) (by unfold S0; omega)).trans (h.caps j hj)⟩
theorem AInv.put {y : Yi} {fi : Fn} (yo : YOk P C y fi) {a : Act} (h : AInv y a) {d : Option Nat} (hd : ∀ t, S0 fi t → d ≠ some t) (v : Value) : AInv y (a.put d v) :=
  h.alike yo (Alike.put (Alike.refl _ _) hd v) (put_defers _ _ _)
/-- what is known behind a round -/
theorem last_rep {H V : View} {ι ι' : Own} {S S' : Sto} {x : AV} {v : Value} (h : RepA C H ι S x v) : RepA C V ι' S' (lastAV x) v := by
  cases x <;> first | exact h | trivial
theorem look_capsAt : ∀ {ts : List Nat} {us : List U} {env : List AV} {j t : Nat}, look (capsAt env j ts us) t = look env t ∨ ∃ i t' u, i < ts.length ∧ t = j + i ∧ ts[i]? = some t' ∧ us[i]? = some u ∧ look (capsAt env j ts us) t = .rp t' u
  | [], us, env, j, t => .inl (by simp [capsAt])
  | t' :: ts, [], env, j, t => .inl (by simp [capsAt])
  | t' :: ts, u :: us, env, j, t => by
    simp only [capsAt]
    rcases look_capsAt (ts := ts) (us := us) (env := setl env j (.rp t' u)) (j := j + 1) (t := t) with h | ⟨i, t2, u2, h1, h2, h3, h4, h5⟩
    · rw [h, look_setl]
      by_cases ht : t = j
      · subst ht
        simp only [if_true]
        by_cases hl : t < env.length
        · rw [if_pos hl]
          exact .inr ⟨0, t', u, by simp, rfl, rfl, rfl, rfl⟩
        · rw [if_neg hl, look_ge _ _ (by omega)]
          exact .inl rfl
      · simp [ht]
    · exact .inr ⟨i + 1, t2, u2, by simpa using h1, by omega, by simpa using h3, by simpa using h4, h5⟩
theorem len_capsAt : ∀ (ts : List Nat) (us : List U) (env : List AV) (j : Nat), (capsAt env j ts us).length = env.length
  | [], us, env, j => by simp [capsAt]
  | t :: ts, [], env, j => by simp [capsAt]
  | t :: ts, u :: us, env, j => by simp [capsAt, len_capsAt, length_setl]
theorem capsL_get {H : View} : ∀ {ts : List Nat} {us : List U} {vs : List Value}, CapsL C H ts us vs → ∀ {i t : Nat} {u : U}, ts[i]? = some t → us[i]? = some u → RepPtr C H t u (vs.getD i undef) ∧ i < vs.length
  | t :: ts, u :: us, v :: vs, k, 0, _, _, h1, h2 => by simp at h1 h2; subst h1 h2; exact ⟨by simpa using k.1, by simp⟩
  | t :: ts, u :: us, v :: vs, k, i + 1, _, _, h1, h2 => by
    obtain ⟨a, b⟩ := capsL_get k.2 (i := i) (by simpa using h1) (by simpa using h2)
    exact ⟨by simpa using a, by simpa using b⟩
  | [], us, vs, k, i, _, _, h1, h2 => by simp at h1
  | _ :: _, [], _, k, _, _, _, _, _ => k.elim
  | _ :: _, _ :: _, [], k, _, _, _, _, _ => k.elim
theorem last_sim {y : Yi} {fi : Fn} (yo : YOk P C y fi) {f : Fr} {ι : Own} {st : St} {a : Act} {W W' : World} (s : Sim C f ι st a W) (hA : AInv y a) (hH : y.H.le (World.view W')) : Sim C (itFr y.H W') ι (lastSt fi y.us st) a W' := by
  have hv : y.H.le (view (itFr y.H W') ι (fun _ => none) W') := by
    intro b o v e
    have hlt : b < W'.heap.size := World.block_lt_of_cell? W' _ (hH b o v e)
    unfold view
    rw [if_neg (by rintro ⟨id, h, _⟩; exact h), if_pos ⟨hlt, fun h => h⟩]
    exact e
  refine ⟨fun t => ?_, ?_, fun id => trivial, fun id id' g h => h.elim, fun id g h => h.elim, ⟨rfl, rfl, rfl, Nat.le_refl _, Nat.le_refl _, fun _ _ _ => rfl⟩, fun k o h => h.elim, by rw [hA.defers]; trivial⟩
  · refine .of ?_
    show RepA C (view (itFr y.H W') ι (fun _ => none) W') ι (fun _ => none) (look (capsAt (st.env.map lastAV) fi.params.length fi.caps y.us) t) (tmOf a t)
    rcases look_capsAt (ts := fi.caps) (us := y.us) (env := st.env.map lastAV) (j := fi.params.length) (t := t) with h | ⟨i, t', u, h1, h2, h3, h4, h5⟩
    · rw [h, look_map _ rfl]
      have := s.env t
      cases hc : isCv (look st.env t) with
      | false => rw [RepS.eq hc] at this; exact last_rep this
      | true => cases hl : look st.env t <;> rw [hl] at hc <;> first | (simp [isCv] at hc; done) | exact trivial
    · rw [h5]
      obtain ⟨k1, k2⟩ := capsL_get yo.caps h3 h4
      rw [h2, yo.one, hA.caps i k2]
      exact RepPtr.mono hv k1
  · show (capsAt _ _ _ _).length = _
    rw [len_capsAt]; simp [s.size]
/-- a post is weakened -/
theorem oper_post {o : Oper} {a : Act} {w : World} {next : Act → World → Prop} {Q Q' : Exit → Act → World → Prop} (hQ : ∀ e a w, Q e a w → Q' e a w) (h : o.wp P a w next Q) : o.wp P a w next Q' := by
  unfold Oper.wp at h ⊢
  generalize (execOp a.eval o).run P w = x at h ⊢
  cases x with
  | ok y w' =>
    cases y <;> simp only [Oper.upon] at h ⊢ <;>
      first
        | exact h
        | exact Calls.mono h (fun e w'' he => by
            cases e with
            | returned v => exact he
            | panicked c => exact hQ _ _ _ he
            | outgrown => obtain ⟨a, w, he⟩ := he; exact ⟨a, w, hQ _ _ _ he⟩)
  | halt x w' => cases x <;> simp only [Oper.upon] at h ⊢ <;> first | exact hQ _ _ _ h | exact h
theorem flats_at : ∀ {l : List AV} {us : List U}, flats l = some us → us.length = l.length ∧ ∀ (i : Nat) (x : AV), l[i]? = some x → ∃ u, x.flat = some u ∧ us[i]? = some u
  | [], us, h => by simp [flats] at h; subst h; simp
  | a :: l, us, h => by
    simp only [flats] at h
    cases h1 : a.flat with
    | none => rw [h1] at h; cases h
    | some u =>
      cases h2 : flats l with
      | none => rw [h1, h2] at h; cases h
      | some us' =>
        rw [h1, h2] at h
        cases h
        obtain ⟨k1, k2⟩ := flats_at h2
        refine ⟨by simp [k1], fun i x hx => ?_⟩
        cases i with
        | zero => simp at hx; subst hx; exact ⟨u, h1, rfl⟩
        | succ i => simpa using k2 i x (by simpa using hx)
theorem fitsTs_get : ∀ {ts : List Nat} {l : List AV}, fitsTs C ts l = true → l.length = ts.length ∧ ∀ (i : Nat) (x : AV), l[i]? = some x → fitsT C (nthN ts i) x = true
  | [], [], _ => by simp
  | t :: ts, a :: l, h => by
    simp only [fitsTs, Bool.and_eq_true] at h
    obtain ⟨k1, k2⟩ := fitsTs_get h.2
    refine ⟨by simp [k1], fun i x hx => ?_⟩
    cases i with
    | zero => simp at hx; subst hx; exact h.1
    | succ i => simpa [nthN] using k2 i x (by simpa using hx)
  | [], _ :: _, h => by cases h
  | _ :: _, [], h => by cases h
theorem view_up {H : View} {W0 W : World} {ι : Own} {S : Sto} : (view (itFr H W0) ι S W).le (upV H W0 W) := by
  intro b o v e
  unfold view at e
  unfold upV
  split at e
  · cases e
  · split at e
    · rename_i h; rw [if_pos (show b < W0.heap.size from h.1)]; exact e
    · rename_i h
      rw [if_neg (show ¬ b < W0.heap.size from fun h' => h ⟨h', fun h => h⟩)]; exact e
/-- the call of yield -/
theorem wpIn_round {o : Oper} {a : Act} {W : World} {next : Act → World → Prop} {Q : Exit → Act → World → Prop} {l : Nat} {f : FuncId} {tmps : Array Value} {asg body : Code} {R : Ending → World → Prop}
    (hr : (execOp a.eval o).run P W = .ok (.round l f tmps asg body) W) (hR : RoundIn (Rd none) 0 P l f tmps asg body W R) (h : ∀ e W', R e W' → ∃ v, e = .returned v ∧ next (a.put o.dst v) W') : o.wpIn (Rd none) 0 P a W next Q := by
  refine ⟨fun _ _ => trivial, ?_⟩
  show o.uponIn (Rd none) 0 P a next Q ((execOp a.eval o).run P W)
  rw [hr]
  refine ⟨fun e => (nomatch e), hR.mono fun e W' he => ?_⟩
  obtain ⟨v, rfl, hn⟩ := h e W' he
  exact hn
theorem run_yield_op {o : Oper} {c : Call} (ho : o.op = .call c) {t : Nat} (hc : c.callee = .value (.tmp t)) {a : Act} {l : Nat} (ht : tmOf a t = .func (.yield l) #[] #[]) {W W' : World} {x : Next} (h : (Instr.yield l (c.args.toList.map a.eval).toArray).run P W = .ok x W') :
    (execOp a.eval o).run P W = .ok x W' := by
  have he : a.eval (.tmp t) = .func (.yield l) #[] #[] := ht
  have hm : c.args.map a.eval = (c.args.toList.map a.eval).toArray := by apply Array.ext'; simp
  rw [← hm] at h
  simp [execOp, ho, resolve, hc, he, Deferred.ofValue, invoke, h]
theorem mem_dropY {d : Option Nat} {ys : List Nat} {t : Nat} (h : t ∈ dropY d ys) : t ∈ ys ∧ d ≠ some t := by
  unfold dropY at h
  rw [List.mem_filter] at h
  refine ⟨h.1, ?_⟩
  rintro rfl
  simp [nbeq] at h
theorem tm_keep {a : Act} {d : Option Nat} {t : Nat} (h : d ≠ some t) (v : Value) : tmOf (a.put d v) t = tmOf a t := by
  cases d with
  | none => rfl
  | some d =>
    rw [tm_put]
    rw [if_neg (fun e => h (by rw [e.1]))]

section
variable {F : Nat → List U → Option U} (ok : CtxOk P C) (zok : ZeroOk P C) (lok : LimOk P C) (hF : ∀ g us r, F g us = some r → Spec P C g us r) {y : Yi} {fi : Fn} (yo : YOk P C y fi)
include ok zok lok hF yo
theorem yop_sound {o : Oper} {ys : List Nat} {st : St} {K : List Nat → St → Option YR} {m : Option Nat} {r : YR} (hp : y.Pre m r) (h : yop C F fi y.us y.ts o ys st K = some r) {W0 : World} {ι : Own} {a : Act} {W : World} (hm : y.M m W0)
    (s : Sim C (itFr y.H W0) ι st a W) (hA : AInv y a) (hys : ∀ t ∈ ys, tmOf a t = y.yv) (hd : ∀ t, S0 fi t → o.dst ≠ some t) {next : Act → World → Prop} {Q : Exit → Act → World → Prop} (hQ : ¬ LetsOut Q)
    (hn : ∀ m' r' W0' ι' ys' st' a' W', Rel m r m' r' → y.M m' W0' → Sim C (itFr y.H W0') ι' st' a' W' → AInv y a' → (∀ t ∈ ys', tmOf a' t = y.yv) → K ys' st' = some r' → next a' W') : o.wpIn (Rd none) 0 P a W next Q := by
  have hf : FrOk (itFr y.H W0) := itFr_ok (yo.le hm)
  have hadds : Adds W0 W := s.keep
  have hyd : ∀ v, ∀ t ∈ dropY o.dst ys, tmOf (a.put o.dst v) t = y.yv := fun v t ht => by
    obtain ⟨h1, h2⟩ := mem_dropY ht
    rw [tm_keep h2]; exact hys t h1
  unfold yop at h
  cases hy : isYield ys o.op with
  | some xs =>
    rw [hy] at h
    simp only at h
    -- the call of yield
    have hcall : ∃ c t, o.op = .call c ∧ c.callee = .value (.tmp t) ∧ t ∈ ys ∧ xs = c.args.toList := by
      unfold isYield at hy
      split at hy
      · rename_i c hop
        split at hy
        · rename_i t hc
          obtain ⟨ht, hy⟩ := cond_some hy
          simp only [List.any_eq_true, nbeq, decide_eq_true_eq] at ht
          obtain ⟨t', ht1, rfl⟩ := ht
          exact ⟨c, _, hop, hc, ht1, by simpa using hy.symm⟩
        · cases hy
      · cases hy
    obtain ⟨c, t, ho, hc, hty, rfl⟩ := hcall
    cases hfl : flats (c.args.toList.map st.eval) with
    | none => rw [hfl] at h; cases h
    | some vs =>
      rw [hfl] at h
      simp only at h
      obtain ⟨hfit, h⟩ := cond_some h
      unfold yiK at h
      split at h
      · rename_i rT hK0 hK1
        cases h
        cases m with
        | none => cases (show _ :: _ = [] from hp)
        | some k =>
          obtain ⟨tl, hp⟩ := hp
          have hx : y.items[k]? = some (U.ofL false vs) := by
            have := congrArg (fun l => l[0]?) hp
            simpa using this
          obtain ⟨f1, f2⟩ := flats_at hfl
          obtain ⟨g1, g2⟩ := fitsTs_get hfit
          have hyld : Yld C (upV y.H W0 W) y.ts (U.ofL false vs) (c.args.toList.map a.eval) := by
            refine ⟨by rw [List.length_map]; rw [List.length_map] at g1; exact g1, fun j hj => ?_⟩
            have hj' : j < c.args.toList.length := by rw [List.length_map] at g1; omega
            have e1 : (c.args.toList.map st.eval)[j]? = some (st.eval c.args.toList[j]) := by rw [List.getElem?_map, List.getElem?_eq_getElem hj']; rfl
            have e2 : (c.args.toList.map a.eval).getD j undef = a.eval c.args.toList[j] := by rw [List.getD_eq_getElem?_getD, List.getElem?_map, List.getElem?_eq_getElem hj']; rfl
            obtain ⟨u, u1, u2⟩ := f2 j _ e1
            have hr := s.eval c.args.toList[j]
            have hcv : isCv (st.eval c.args.toList[j]) = false := by
              cases hq : st.eval c.args.toList[j] <;> first | rfl | (rw [hq] at u1; simp [AV.flat] at u1)
            rw [RepS.eq hcv] at hr
            obtain ⟨cs, k1, k2⟩ := RepA.flat hr (g2 j _ e1) u1
            rw [e2, get_ofL, nth_get, u2]
            exact ⟨cs, k1, k2.mono view_up⟩
          obtain ⟨fn, tmps, asg, body, hrun, hR⟩ := yo.round k _ W0 W _ hx hm hadds hyld
          refine wpIn_round (run_yield_op ho hc (hys t hty) hrun) hR ?_
          rintro e W' (⟨rfl, hj⟩ | ⟨rfl, hj⟩)
          · refine ⟨_, rfl, hn (some (k + 1)) rT W' ι _ _ _ _ (.inl ⟨[U.ofL false vs], rfl, rfl, rfl⟩) hj ?_ (hA.put yo hd _) (hyd _) hK1⟩
            exact (last_sim yo s hA (yo.hH _ _ hj)).put o.dst fun _ _ _ => .of rfl
          · refine ⟨_, rfl, hn none ⟨[], none⟩ W' ι _ _ _ _ (.stop _ _) hj ?_ (hA.put yo hd _) (hyd _) hK0⟩
            exact (last_sim yo s hA (yo.hHx _ hj)).put o.dst fun _ _ _ => .of rfl
      · cases h
  | none =>
    rw [hy] at h
    simp only at h
    cases hmv : moveY ys o.op with
    | true =>
      rw [hmv] at h
      simp only [cond_true] at h
      have hmove : ∃ t, o.op = .move (.tmp t) ∧ t ∈ ys := by
        unfold moveY at hmv
        split at hmv
        · rename_i t hop
          simp only [List.any_eq_true, nbeq, decide_eq_true_eq] at hmv
          obtain ⟨t', h1, rfl⟩ := hmv
          exact ⟨_, hop, h1⟩
        · cases hmv
      obtain ⟨t, ho, hty⟩ := hmove
      cases hdst : o.dst with
      | none => rw [hdst] at h; cases h
      | some d =>
        rw [hdst] at h
        simp only at h
        obtain ⟨hlt, h⟩ := cond_some h
        have hlt : d < a.tmps.size := by rw [← s.size]; exact of_decide_eq_true (by simpa [Nat.blt_eq] using hlt)
        refine oper_in (.inl rfl) (wp_value (v := y.yv) (w' := W) ?_ ?_)
        · unfold execOp; rw [ho]
          have : a.eval (.tmp t) = y.yv := hys t hty
          simp [this]
        · rw [hdst]
          refine hn m r W0 ι _ _ _ _ (.refl _ _) hm (s.put (some d) (x := .junk) fun _ _ _ => .of trivial) (hA.put yo (by rw [← hdst]; exact hd) _) ?_ h
          intro t' ht'
          rcases List.mem_cons.1 ht' with rfl | ht'
          · rw [tm_put, if_pos ⟨rfl, hlt⟩]
          · rw [tm_put]
            split
            · rfl
            · exact hys t' ht'
    | false =>
      rw [hmv] at h
      simp only [cond_false] at h
      have w1 := aoperK_sound ok zok lok hF hf s h (next := fun a' W' => Nx C (itFr y.H W0) a.defers (fun st' => K (dropY o.dst ys) st') r a' W') (fun a' W' hq => hq) (Q := fun _ _ _ => False)
      have w2 := oper_kept (S := fun t => S0 fi t ∨ t ∈ dropY o.dst ys) (a0 := a) (fun ⟨_, _, h⟩ => h) (fun t ht => by
        rcases ht with ht | ht
        · exact hd t ht
        · exact (mem_dropY ht).2) (Alike.refl _ _) (next' := next) (fun a' W' hal ⟨ι', st', k1, k2, k3⟩ => by
          refine hn m r W0 ι' _ _ _ _ (.refl _ _) hm k1 (hA.alike yo ⟨hal.1, fun t ht => hal.2 t (.inl ht)⟩ k3) (fun t ht => ?_) k2
          rw [hal.2 t (.inr ht)]
          exact hys t (mem_dropY ht).1) w1
      exact oper_in (.inl rfl) (oper_post (fun e a w h => h.1.elim) w2)
theorem yops_sound {ops : Array Oper} {K : St → Option YR} {m0 : Option Nat} {r0 : YR} {Q : Exit → Act → World → Prop} (hQ : ¬ LetsOut Q)
    (hn : ∀ m' r' W0' ι' st' a' W', Rel m0 r0 m' r' → y.M m' W0' → Sim C (itFr y.H W0') ι' st' a' W' → AInv y a' → K st' = some r' → Q .normal a' W') :
    ∀ {l : List Oper} {ys : List Nat} {st : St} {m : Option Nat} {r : YR} {W0 : World} {ι : Own} {a : Act} {W : World}, Rel m0 r0 m r → y.Pre m r → y.M m W0 → Sim C (itFr y.H W0) ι st a W → AInv y a → (∀ t ∈ ys, tmOf a t = y.yv) →
      (∀ o ∈ l, ∀ t, S0 fi t → o.dst ≠ some t) → yops C F fi y.us y.ts ops.toList l ys st K = some r → wpListIn (Rd none) 0 P ops Q l a W
  | [], ys, st, m, r, W0, ι, a, W, hr, hp, hm, s, hA, hys, hd, h => hn m r W0 ι _ _ _ hr hm s.drop hA h
  | o :: l, ys, st, m, r, W0, ι, a, W, hr, hp, hm, s, hA, hys, hd, h => by
    have hdo := hd o (List.mem_cons_self ..)
    have hdl : ∀ o ∈ l, ∀ t, S0 fi t → o.dst ≠ some t := fun o ho => hd o (List.mem_cons_of_mem _ ho)
    have hyd : ∀ v, ∀ t ∈ dropY o.dst ys, tmOf (a.put o.dst v) t = y.yv := fun v t ht => by
      obtain ⟨h1, h2⟩ := mem_dropY ht
      rw [tm_keep h2]; exact hys t h1
    have step : ∀ {st1 : St}, Sim C (itFr y.H W0) ι st1 a W → yop C F fi y.us y.ts o ys st1 (fun ys' st' => yops C F fi y.us y.ts ops.toList l ys' st' K) = some r → o.wpIn (Rd none) 0 P a W (wpListIn (Rd none) 0 P ops Q l) Q := fun s1 h1 =>
      yop_sound ok zok lok hF yo hp h1 hm s1 hA hys hdo hQ fun m' r' W0' ι' ys' st' a' W' k1 k2 k3 k4 k5 k6 => yops_sound hQ hn (hr.trans k1) (hp.rel k1) k2 k3 k4 k5 hdl k6
    have skip : ∀ {st1 : St}, Sim C (itFr y.H W0) ι st1 a W → yops C F fi y.us y.ts ops.toList l (dropY o.dst ys) (st1.put o.dst .und) K = some r → wpListIn (Rd none) 0 P ops Q l (a.put o.dst undef) W := fun {st1} s1 h1 =>
      yops_sound hQ hn hr hp hm (s1.put o.dst fun _ _ _ => .of (show RepA C (view (itFr y.H W0) ι st1.sto W) ι st1.sto .und undef from rfl)) (hA.put yo hdo _) (hyd _) hdl h1
    simp only [yops] at h
    unfold wpListIn
    cases hg : o.guard with
    | none =>
      rw [hg] at h
      have hw : Region.wanted o (yielded ops a.tmps) = true := by simp [Region.wanted, hg]
      rw [if_pos hw]
      cases hpk : pickOf st o.op with
      | some q =>
        obtain ⟨c, x, z⟩ := q
        rw [hpk] at h
        obtain ⟨v, k1, k2⟩ := pick_sound s hpk
        refine oper_in (.inl rfl) (wp_value k1 (yops_sound hQ hn hr hp hm k2 (hA.put yo hdo _) (hyd _) hdl ?_))
        cases c <;> exact h
      | none =>
        rw [hpk] at h
        exact step s h
    | some p =>
      obtain ⟨j', wt⟩ := p
      rw [hg] at h
      simp only at h
      cases hdd : dstOf ops.toList j' with
      | none => rw [hdd] at h; cases h
      | some j =>
        rw [hdd] at h
        simp only at h
        have hjv := s.env j
        split at h
        · rename_i x hx
          rw [hx] at hjv
          have hjv : tmOf a j = .bool x := hjv
          by_cases hwt : x = wt
          · subst hwt
            have hb : (bif x then x else !x) = true := by cases x <;> rfl
            rw [hb] at h
            simp only [cond_true] at h
            rw [if_pos ((wanted_of hg hdd).2 hjv)]
            exact step (s.known hjv) h
          · have hx2 : x = !wt := by cases x <;> cases wt <;> simp_all
            have hb : (bif wt then x else !x) = false := by rw [hx2]; cases wt <;> rfl
            rw [hb] at h
            simp only [cond_false] at h
            rw [if_neg (fun e => by have := (wanted_of hg hdd).1 e; rw [hjv] at this; cases this; exact hwt rfl)]
            exact ⟨fun _ _ => trivial, skip (s.known (by rw [hjv, hx2])) h⟩
        · rename_i hx
          rw [hx] at hjv
          have hjv : tmOf a j = undef := hjv
          rw [if_neg (fun e => by have := (wanted_of hg hdd).1 e; rw [hjv] at this; cases this)]
          exact ⟨fun _ _ => trivial, skip s h⟩
        · cases h

def YN (C : Ctx) (y : Yi) (m : Option Nat) (r : YR) (Ke : St → Option YR) (a : Act) (W : World) : Prop :=
  AInv y a ∧ ∃ m' r' W0 ι st, Rel m r m' r' ∧ y.M m' W0 ∧ Sim C (itFr y.H W0) ι st a W ∧ Ke st = some r'
def YPost (C : Ctx) (y : Yi) (m : Option Nat) (r : YR) (K : Ex → St → Option YR) : Exit → Act → World → Prop
  | .normal, a, W => YN C y m r (K .n) a W
  | .exit j, a, W => YN C y m r (K (.x j)) a W
  | .ret, a, W => a.defers = [] ∧ ∃ m', Rel m r m' ⟨[], none⟩ ∧ y.M m' W
  | _, _, _ => False
def YLPost (C : Ctx) (y : Yi) (m : Option Nat) (r : YR) (bid : Nat) (tu : Tpl) : Exit → Act → World → Prop
  | .exit j, a, W => j = bid ∧ AInv y a ∧ ∃ m' q W0 ι, Rel m r m' ⟨[], some q⟩ ∧ y.M m' W0 ∧ Sim C (itFr y.H W0) ι (unpack tu q) a W
  | .ret, a, W => a.defers = [] ∧ ∃ m', Rel m r m' ⟨[], none⟩ ∧ y.M m' W
  | _, _, _ => False
def YLSpec (P : Program) (C : Ctx) (y : Yi) (fi : Fn) (g bid : Nat) (c : Code) (p : JP) (r : YR) : Prop :=
  ∀ ti tu, C.loops g bid = some (ti, tu) → ∀ m W0 ι a W, y.Pre m r → y.M m W0 → AInv y a → Clear (S0 fi) c → Sim C (itFr y.H W0) ι (unpack ti p) a W → (Code.loop c).wpIn (Rd none) 0 P (YLPost C y m r bid tu) a W
theorem ycode_sound {L : Nat → Code → JP → Option YR} {g : Nat} (hL : ∀ bid c p r, L bid c p = some r → YLSpec P C y fi g bid c p r) :
    ∀ (c : Code) (bid : Nat) (st : St) (K : Ex → St → Option YR) (m : Option Nat) (r : YR) (W0 : World) (ι : Own) (a : Act) (W : World), Clear (S0 fi) c → y.Pre m r → y.M m W0 → Sim C (itFr y.H W0) ι st a W → AInv y a →
      ycode C F L g fi y.us y.ts c bid st K = some r → c.wpIn (Rd none) 0 P (YPost C y m r K) a W := by
  have hout : ∀ {m : Option Nat} {r : YR} {K : Ex → St → Option YR}, ¬ LetsOut (YPost C y m r K) := fun ⟨_, _, h⟩ => h
  intro c
  induction c with
  | skip => intro bid st K m r W0 ι a W hc hp hm s hA h; simp only [ycode] at h; exact wpIn_skip ⟨hA, m, r, W0, ι, st, .refl _ _, hm, s, h⟩
  | seq x z ihx ihz =>
    intro bid st K m r W0 ι a W hc hp hm s hA h
    simp only [ycode] at h
    refine wpIn_seq (wpIn_mono (ihx bid st _ m r W0 ι a W hc.seq.1 hp hm s hA h) ?_)
    intro e a' W' hq
    cases e with
    | normal =>
      obtain ⟨hA', m', r', W0', ι', st', k1, k2, k3, k4⟩ := hq
      refine wpIn_mono (ihz bid st' K m' r' W0' ι' a' W' hc.seq.2 (hp.rel k1) k2 k3 hA' k4) ?_
      intro e a2 W2 hq2
      cases e with
      | normal => obtain ⟨h1, m2, r2, W02, ι2, st2, j1, j2⟩ := hq2; exact ⟨h1, m2, r2, W02, ι2, st2, k1.trans j1, j2⟩
      | exit j => obtain ⟨h1, m2, r2, W02, ι2, st2, j1, j2⟩ := hq2; exact ⟨h1, m2, r2, W02, ι2, st2, k1.trans j1, j2⟩
      | ret => obtain ⟨h1, m2, j1, j2⟩ := hq2; exact ⟨h1, m2, k1.trans j1, j2⟩
      | _ => exact hq2.elim
    | exit j => exact hq
    | ret => exact hq
    | _ => exact hq.elim
  | region id ops draw =>
    intro bid st K m r W0 ι a W hc hp hm s hA h
    simp only [ycode] at h
    cases draw with
    | true =>
      simp only [cond_true] at h
      obtain ⟨hd, h⟩ := cond_some h
      have hf : FrOk (itFr y.H W0) := itFr_ok (yo.le hm)
      let Q0 : Exit → Act → World → Prop := fun e a' W' => match e with
        | .normal => Nx C (itFr y.H W0) a.defers (K .n) r a' W'
        | _ => False
      have hQ0 : ¬ LetsOut Q0 := fun ⟨_, _, h⟩ => h
      refine wpIn_mono (wpIn_region_any ok.mixed (wpAny_in (not_out hQ0) (fun i o hi => .inl rfl) (wpAny_kept (S := S0 fi) (a0 := a) hQ0 (fun i o hi => hc.ops o (List.mem_of_getElem? (by rw [Array.getElem?_toList]; exact hi))) (Alike.refl _ _)
        (draw_sound ok zok lok hF hf (id := id) (K := K .n) (r := r) (ds := a.defers) (Q := Q0) (fun a' w hq => hq) rfl s hd h)))) ?_
      intro e a' W' hq
      cases e with
      | normal =>
        obtain ⟨⟨ι', st', k1, k2, k3⟩, hal⟩ := hq
        exact ⟨hA.alike yo hal k3, m, r, W0, ι', st', .refl _ _, hm, k1, k2⟩
      | _ => exact hq.1.elim
    | false =>
      simp only [cond_false] at h
      refine wpIn_region_list (yops_sound ok zok lok hF yo (K := K .n) (m0 := m) (r0 := r) hout (fun m' r' W0' ι' st' a' W' k1 k2 k3 k4 k5 => ⟨k4, m', r', W0', ι', st', k1, k2, k3, k5⟩) (.refl _ _) hp hm s.drop hA (fun t ht => ?_) (fun o ho => hc.ops o ho) h)
      obtain rfl := List.mem_singleton.1 ht
      exact hA.yld
  | cond cnd x z ihx ihz =>
    intro bid st K m r W0 ι a W hc hp hm s hA h
    simp only [ycode] at h
    cases hcn : st.eval cnd with
    | b t =>
      rw [hcn] at h
      have he := s.eval cnd
      rw [hcn] at he
      have he : a.eval cnd = .bool t := he
      refine wpIn_cond he ?_
      cases t with
      | true => exact ihx bid st K m r W0 ι a W hc.cond.1 hp hm s hA h
      | false => exact ihz bid st K m r W0 ι a W hc.cond.2 hp hm s hA h
    | _ => rw [hcn] at h; cases h
  | block id c ih =>
    intro bid st K m r W0 ι a W hc hp hm s hA h
    simp only [ycode] at h
    refine wpIn_block (wpIn_mono (ih id st _ m r W0 ι a W hc.block hp hm s hA h) ?_)
    intro e a' W' hq
    cases e with
    | normal => exact hq
    | exit j =>
      obtain ⟨hA', m', r', W0', ι', st', k1, k2, k3, k4⟩ := hq
      simp only [Exit.inBlock]
      simp only [nbeq] at k4
      by_cases hj : j = id
      · rw [if_pos hj]
        simp only [hj, decide_true, cond_true] at k4
        exact ⟨hA', m', r', W0', ι', st', k1, k2, k3, k4⟩
      · rw [if_neg hj]
        simp only [hj, decide_false, cond_false] at k4
        exact ⟨hA', m', r', W0', ι', st', k1, k2, k3, k4⟩
    | ret => exact hq
    | _ => exact hq.elim
  | loop c ih =>
    intro bid st K m r W0 ι a W hc hp hm s hA h
    simp only [ycode] at h
    cases hl : C.loops g bid with
    | none => rw [hl] at h; cases h
    | some tt =>
      obtain ⟨ti, tu⟩ := tt
      rw [hl] at h
      simp only at h
      cases hpk : pack C ti st with
      | none => rw [hpk] at h; cases h
      | some p =>
        rw [hpk] at h
        unfold yoK at h
        simp only [Option.bind_eq_some_iff] at h
        obtain ⟨r1, hr1, h⟩ := h
        obtain ⟨ι2, s2⟩ := unpack_sound (itFr_ok (yo.le hm)) s hpk
        have hp1 : y.Pre m r1 := by
          cases ho : r1.out with
          | none => rw [ho] at h; cases h; exact hp
          | some q =>
            rw [ho] at h
            simp only [Option.map_eq_some_iff] at h
            obtain ⟨r2, _, rfl⟩ := h
            cases m with
            | none => exact (List.append_eq_nil_iff.1 (show r1.items ++ r2.items = [] from hp)).1
            | some k =>
              obtain ⟨tl, hp⟩ := hp
              exact ⟨r2.items ++ tl, by rw [hp]; simp⟩
        refine wpIn_mono (hL bid c p r1 hr1 ti tu hl m W0 ι2 a W hp1 hm hA hc.loop s2) ?_
        intro e a' W' hq
        cases e with
        | exit j =>
          obtain ⟨rfl, hA', m', q, W0', ι', k1, k2, k3⟩ := hq
          rcases k1 with ⟨c0, e1, e2, e3⟩ | ⟨_, e2⟩
          · rw [← e2] at h
            simp only [Option.map_eq_some_iff] at h
            obtain ⟨r2, h2, rfl⟩ := h
            rw [List.append_nil] at e1
            exact ⟨hA', m', r2, W0', ι', _, .inl ⟨c0, by rw [e1], rfl, e3⟩, k2, k3, h2⟩
          · cases e2
        | ret =>
          obtain ⟨h1, m', k1, k2⟩ := hq
          refine ⟨h1, m', ?_, k2⟩
          rcases k1 with ⟨c0, e1, e2, e3⟩ | ⟨e1, _⟩
          · rw [← e2] at h
            cases h
            exact .inl ⟨c0, e1, e2, e3⟩
          · rw [e1]; exact .stop _ _
        | _ => exact hq.elim
  | exit id => intro bid st K m r W0 ι a W hc hp hm s hA h; simp only [ycode] at h; exact wpIn_exit ⟨hA, m, r, W0, ι, st, .refl _ _, hm, s, h⟩
  | ret =>
    intro bid st K m r W0 ι a W hc hp hm s hA h
    simp only [ycode] at h
    cases h
    exact wpIn_ret ⟨hA.defers, m, .refl _ _, yo.adds hm s.keep⟩
  | _ => intro bid st K m r W0 ι a W hc hp hm s hA h; simp [ycode] at h
end
end Go.Ab
