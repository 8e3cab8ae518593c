/- Drawn regions: every order comes to the same. -/
import Derived.Test.YtnahhhaicalmcaaDoorAbDraw3
import Derived.Orders
set_option linter.unusedVariables false
set_option linter.unusedSimpArgs false
namespace Go.Ab
open Go.RowKit
variable {C : Ctx} {P : Program} {F : Nat → List U → Option U}

theorem look_ext : ∀ {l l' : List AV}, l.length = l'.length → (∀ t, look l t = look l' t) → l = l'
  | [], [], _, _ => rfl
  | a :: l, b :: l', h, k => by
    have h0 : a = b := k 0
    subst h0
    rw [look_ext (l := l) (l' := l') (by simpa using h) (fun t => k (t + 1))]
theorem look_put {st : St} {d t : Nat} {v : AV} : look (st.put (some d) v).env t = if t = d then (if d < st.env.length then v else .junk) else killcv d (look st.env t) := by
  simp only [St.put, look_setl, List.length_map]
  split
  · rfl
  · rw [look_map _ rfl]
theorem killcv_of {d : Nat} {v : AV} (h : isCv v = false) : killcv d v = v := by cases v <;> first | rfl | simp [isCv] at h
theorem killcv_ne {d : Nat} {v : AV} (h : ∀ j w x, v = .cv j w x → d ≠ j) : killcv d v = v := by
  cases v with
  | cv j w x =>
    have := h j w x rfl
    simp only [killcv, nbeq]
    rw [decide_eq_false (fun e => this e.symm)]
    rfl
  | _ => rfl
theorem killcv_comm (d e : Nat) (v : AV) : killcv d (killcv e v) = killcv e (killcv d v) := by
  cases v with
  | cv j w x =>
    simp only [killcv]
    cases h1 : Nat.beq j d <;> cases h2 : Nat.beq j e <;> simp [killcv, h1, h2]
  | _ => rfl
theorem put_len (st : St) (d : Option Nat) (v : AV) : (st.put d v).env.length = st.env.length := by cases d <;> simp [St.put, length_setl]
/-- the value does not hang on this slot -/
def Off (d : Option Nat) (v : AV) : Prop := ∀ j w x, v = .cv j w x → d ≠ some j
theorem Off.of {d : Option Nat} {v : AV} (h : isCv v = false) : Off d v := fun j w x e => by subst e; simp [isCv] at h
theorem put_swap {st : St} {a b : Option Nat} {va vb : AV} (h : ∀ d, a = some d → b ≠ some d) (ha : Off b va) (hb : Off a vb) : ((st.put a va).put b vb).env = ((st.put b vb).put a va).env := by
  cases a with
  | none => rfl
  | some d =>
    cases b with
    | none => rfl
    | some e =>
      have hne : d ≠ e := fun x => h d rfl (x ▸ rfl)
      refine look_ext (by simp only [put_len]) (fun t => ?_)
      simp only [look_put, put_len]
      by_cases h1 : t = d
      · subst h1
        simp only [hne, if_true, if_false]
        split
        · exact killcv_ne fun j w x e' => fun e2 => ha j w x e' (by rw [e2])
        · rfl
      · by_cases h2 : t = e
        · subst h2
          simp only [h1, if_true, if_false]
          split
          · exact (killcv_ne fun j w x e' => fun e2 => hb j w x e' (by rw [e2])).symm
          · rfl
        · simp only [h1, h2, if_false]
          exact killcv_comm _ _ _

theorem apart_of {ops : List Oper} {a b : Oper} (h : apart ops a b = true) : (∀ d, a.dst = some d → d ∉ slotsG ops b ∧ b.dst ≠ some d) ∧ ∀ d, b.dst = some d → d ∉ slotsG ops a := by
  unfold apart at h
  simp only [Bool.and_eq_true] at h
  obtain ⟨h1, h2⟩ := h
  constructor
  · intro d hd
    rw [hd] at h1
    simp only [Bool.and_eq_true, Bool.not_eq_true', List.any_eq_false, nbeq, decide_eq_true_eq] at h1
    refine ⟨fun hm => h1.1 d hm rfl, fun e => ?_⟩
    rw [e] at h1
    simp [nbeq] at h1
  · intro d hd
    rw [hd] at h2
    simp only [Bool.not_eq_true', List.any_eq_false, nbeq, decide_eq_true_eq] at h2
    exact fun hm => h2 d hm rfl
theorem eval_same {st st' : St} {o : Oper} (h : ∀ t ∈ slotsOf o, look st'.env t = look st.env t) : ∀ x ∈ o.op.operands, st'.eval x = st.eval x := by
  intro x hx
  cases x with
  | tmp t => exact h t (by unfold slotsOf; rw [List.mem_filterMap]; exact ⟨.tmp t, by simpa using hx, rfl⟩)
  | _ => rfl

/-- no slot hangs on what is written -/
def Free (st : St) (d : Option Nat) : Prop := ∀ t j w v, look st.env t = .cv j w v → d ≠ some j
/-- the slots are alike, but for one on which none hangs -/
structure Like (st st' : St) (d : Option Nat) : Prop where
  free : Free st d
  look : ∀ t, d ≠ some t → look st'.env t = look st.env t
theorem look_put_free {st : St} {d : Option Nat} {v : AV} (h : Free st d) {t : Nat} (ht : d ≠ some t) : look (st.put d v).env t = look st.env t := by
  cases d with
  | none => rfl
  | some d =>
    rw [look_put, if_neg (fun e : t = d => ht (by rw [e]))]
    exact killcv_ne fun j w x e => fun e2 => h t j w x e (by rw [e2])
theorem Free.like {st st' : St} {d : Option Nat} (h : Free st d) {v : AV} (e : st'.env = (st.put d v).env) : Like st st' d := ⟨h, fun t ht => by rw [e]; exact look_put_free h ht⟩
theorem strip_like {st st' : St} {d : Option Nat} (h : Like st st' d) : ∀ (n j : Nat) (w : Bool) (x : AV), d ≠ some j → strip st' n j w x = strip st n j w x
  | 0, _, _, _, _ => rfl
  | n + 1, j, w, x, hj => by
    simp only [strip]
    rw [h.look j hj]
    cases hl : Ab.look st.env j with
    | cv j' w' y => exact strip_like h n j' w' _ (h.free j j' w' y hl)
    | _ => rfl
theorem gexp_like {st st' : St} {d : Option Nat} (h : Like st st' d) : ∀ (n j : Nat) (w : Bool), d ≠ some j → gexp st' n j w = gexp st n j w
  | 0, _, _, _ => rfl
  | n + 1, j, w, hj => by
    simp only [gexp]
    rw [h.look j hj]
    cases hl : Ab.look st.env j with
    | cv j' w' y =>
      cases y with
      | b z => simp only; rw [gexp_like h n j' w' (h.free j j' w' _ hl)]
      | _ => rfl
    | _ => rfl
theorem Like.eval {st st' : St} {d : Option Nat} (h : Like st st' d) {ops : List Oper} {o : Oper} (hd : ∀ e, d = some e → e ∉ slotsG ops o) : ∀ x ∈ o.op.operands, st'.eval x = st.eval x :=
  eval_same fun t ht => h.look t (fun e => hd t e (by unfold slotsG; exact List.mem_append_left _ ht))

/-- what an operation looks at is the same -/
structure Same (ops : List Oper) (o : Oper) (st st' : St) : Prop where
  eval : ∀ x ∈ o.op.operands, st'.eval x = st.eval x
  strip : ∀ j' w j n v x, o.guard = some (j', w) → dstOf ops j' = some j → strip st' n j v x = strip st n j v x
  gexp : ∀ j' w j n v, o.guard = some (j', w) → dstOf ops j' = some j → gexp st' n j v = gexp st n j v
theorem Same.symm {ops : List Oper} {o : Oper} {st st' : St} (h : Same ops o st st') : Same ops o st' st :=
  ⟨fun x hx => (h.eval x hx).symm, fun j' w j n v x a b => (h.strip j' w j n v x a b).symm, fun j' w j n v a b => (h.gexp j' w j n v a b).symm⟩
theorem Like.same {st st' : St} {d : Option Nat} (h : Like st st' d) {ops : List Oper} {o : Oper} (hd : ∀ e, d = some e → e ∉ slotsG ops o) : Same ops o st st' := by
  have hj : ∀ j' w j, o.guard = some (j', w) → dstOf ops j' = some j → d ≠ some j := by
    intro j' w j hg hdj e
    refine hd j e ?_
    unfold slotsG
    rw [hg]
    simp [hdj]
  exact ⟨h.eval hd, fun j' w j n v x a b => strip_like h n j v x (hj j' w j a b), fun j' w j n v a b => gexp_like h n j v (hj j' w j a b)⟩

/-- a guarded step -/
theorem guard_step {ops : List Oper} {o : Oper} {st s1 : St} {j' : Nat} {w : Bool} (hg : o.guard = some (j', w)) (h : oone C F true ops o st = some s1) :
    ∃ j v, dstOf ops j' = some j ∧ s1 = st.put o.dst (.cv j w v) ∧ ∀ st', Same ops o st st' → SLe st.sto st'.sto → oone C F true ops o st' = some (st'.put o.dst (.cv j w v)) := by
  simp only [oone, hg] at h ⊢
  cases hd : dstOf ops j' with
  | none => rw [hd] at h; cases h
  | some j =>
    rw [hd] at h
    simp only at h ⊢
    unfold aoperG at h
    cases hge : gexp st 20 j w with
    | none => rw [hge] at h; simp at h
    | some gd =>
      cases hdst : o.dst with
      | none => rw [hge, hdst] at h; simp at h
      | some dd =>
        rw [hge, hdst] at h
        simp only at h
        cases hb : Nat.beq dd j with
        | true => rw [hb] at h; cases h
        | false =>
          rw [hb] at h
          simp only [cond_false] at h
          have same : ∀ st', Same ops o st st' → SameOn (fun x => strip st 20 j w (st.eval x)) (fun x => strip st' 20 j w (st'.eval x)) o.op := by
            intro st' hl x hx
            show strip st' 20 j w (st'.eval x) = strip st 20 j w (st.eval x)
            rw [hl.eval x hx, hl.strip j' w j 20 w _ hg hd]
          cases hap : apure C st (fun x => strip st 20 j w (st.eval x)) o.op with
          | some p =>
            obtain ⟨safe, v⟩ := p
            rw [hap] at h
            simp only at h
            cases hcv : isCv v with
            | true => rw [hcv] at h; cases h
            | false =>
              rw [hcv] at h
              simp only [cond_false] at h
              obtain ⟨hs, h⟩ := cond_some h
              cases h
              refine ⟨j, v, rfl, rfl, fun st' hl hle => ?_⟩
              unfold aoperG
              rw [hl.gexp j' w j 20 w hg hd, hge, hdst]
              simp only [hb, cond_false, apure_mono hle (same st' hl) hap, hcv, hs, cond_true]
          | none =>
            rw [hap] at h
            simp only at h
            split at h
            · rename_i c ho
              have hap' : ∀ (st' : St) f, c.callee = .value f → apure C st' (fun x => strip st' 20 j w (st'.eval x)) (.call c) = none := by
                intro st' f hf
                simp [apure, hf]
              split at h
              · rename_i f hcal
                have args : ∀ st', Same ops o st st' → strip st' 20 j w (st'.eval f) = strip st 20 j w (st.eval f) ∧ (c.args.toList.map fun x => strip st' 20 j w (st'.eval x)) = c.args.toList.map fun x => strip st 20 j w (st.eval x) := by
                  intro st' hl
                  have := same st' hl
                  rw [ho] at this
                  exact ⟨this f (by simp [Op.operands, Call.operands, hcal]), List.map_congr_left fun x hx => this x (by simp only [Op.operands, Call.operands, hcal]; simp; exact .inr (by simpa using hx))⟩
                split at h
                · rename_i g caps hst
                  split at h
                  · rename_i fi cs us hfi hcs hus
                    split at h
                    · rename_i t hrts
                      obtain ⟨hcc, h⟩ := cond_some h
                      simp only [Option.bind_eq_some_iff] at h
                      obtain ⟨r, hr, h⟩ := h
                      cases h
                      refine ⟨j, _, rfl, rfl, fun st' hl hle => ?_⟩
                      obtain ⟨e1, e2⟩ := args st' hl
                      unfold aoperG
                      rw [hl.gexp j' w j 20 w hg hd, hge, hdst, ho]
                      simp only [hb, cond_false, hap' st' f hcal, hcal, e1, hst, hfi, e2]
                      rw [capUs_mono hle hcs, argUs_mono hle hus]
                      simp only [hrts]
                      simp only [Bool.and_eq_true] at hcc
                      obtain ⟨⟨⟨c1, c2⟩, c34⟩, c5⟩ := hcc
                      cases hts : capTs st caps with
                      | none => rw [hts] at c5; simp at c5
                      | some ts =>
                        rw [hts] at c5
                        simp only at c5
                        rw [capTs_mono hle hts]
                        simp only [fitsArgs_mono hle c1, c2, c34, c5, Bool.and_self, cond_true, hr, Option.bind_some]
                    · cases h
                  · cases h
                · rename_i t u hst
                  split at h
                  · rename_i ps t' us hte hus
                    obtain ⟨hcc, h⟩ := cond_some h
                    simp only [Option.bind_eq_some_iff] at h
                    obtain ⟨r, hr, h⟩ := h
                    cases h
                    refine ⟨j, _, rfl, rfl, fun st' hl hle => ?_⟩
                    obtain ⟨e1, e2⟩ := args st' hl
                    unfold aoperG
                    rw [hl.gexp j' w j 20 w hg hd, hge, hdst, ho]
                    simp only [hb, cond_false, hap' st' f hcal, hcal, e1, hst, hte, e2]
                    rw [argUs_mono hle hus]
                    simp only
                    simp only [Bool.and_eq_true] at hcc
                    simp only [fitsArgs_mono hle hcc.1, hcc.2, Bool.and_self, cond_true, hr, Option.bind_some]
                  · cases h
                · cases h
              · cases h
            · cases h

/-- what moves: a step that only reads -/
theorem still_step {ops : List Oper} {a : Oper} {st s1 : St} (ra : (isRead C a || a.guard.isSome) = true) (h : oone C F true ops a st = some s1) :
    ∃ v, s1 = st.put a.dst v ∧ (∀ j w x, v = .cv j w x → ∃ j', a.guard = some (j', w) ∧ dstOf ops j' = some j) ∧ ∀ st', Same ops a st st' → SLe st.sto st'.sto → oone C F true ops a st' = some (st'.put a.dst v) := by
  cases hg : a.guard with
  | none =>
    rw [hg] at ra
    have ra : isRead C a = true := by simpa using ra
    obtain ⟨v, h1, h2, h3⟩ := read_step ra hg h
    exact ⟨v, h2, fun j w x e => by subst e; simp [isCv] at h1, fun st' hl hle => h3 st' hle hl.eval⟩
  | some p =>
    obtain ⟨j', w⟩ := p
    obtain ⟨j, v, h1, h2, h3⟩ := guard_step hg h
    exact ⟨_, h2, fun j2 w2 x e => by cases e; exact ⟨j', rfl, h1⟩, fun st' hl hle => h3 st' hl hle⟩
/-- what it passes -/
theorem calm_step2 {ops : List Oper} {b : Oper} {st s1 : St} (cb : (isCalm C b || b.guard.isSome) = true) (h : oone C F true ops b st = some s1) :
    ∃ v, s1.env = (st.put b.dst v).env ∧ (∀ j w x, v = .cv j w x → ∃ j', b.guard = some (j', w) ∧ dstOf ops j' = some j) ∧ SLe st.sto s1.sto ∧
      ∀ st', Same ops b st st' → st'.sto = st.sto → oone C F true ops b st' = some ⟨(st'.put b.dst v).env, s1.sto⟩ := by
  cases hg : b.guard with
  | none =>
    rw [hg] at cb
    have cb : isCalm C b = true := by simpa using cb
    obtain ⟨v, h1, h2, h3, h4⟩ := calm_step cb hg h
    exact ⟨v, h2, fun j w x e => by subst e; simp [isCv] at h1, h3, fun st' hl e => h4 st' e hl.eval⟩
  | some p =>
    obtain ⟨j', w⟩ := p
    obtain ⟨j, v, h1, h2, h3⟩ := guard_step hg h
    refine ⟨.cv j w v, by rw [h2], fun j2 w2 x e => by cases e; exact ⟨j', rfl, h1⟩, by rw [h2, put_sto]; exact SLe.refl _, fun st' hl e => ?_⟩
    rw [h3 st' hl (SLe.of_eq e), h2, put_sto, ← e]
    congr 1
    exact St.eq rfl (by rw [put_sto])

theorem swap {ops : List Oper} {a b : Oper} {st s1 s2 : St} (ra : (isRead C a || a.guard.isSome) = true) (cb : (isCalm C b || b.guard.isSome) = true) (hap : apart ops a b = true) (fa : Free st a.dst) (fb : Free st b.dst)
    (ga : ∀ j' w j, a.guard = some (j', w) → dstOf ops j' = some j → b.dst ≠ some j)
    (h1 : oone C F true ops a st = some s1) (h2 : oone C F true ops b s1 = some s2) : ∃ s1', oone C F true ops b st = some s1' ∧ oone C F true ops a s1' = some s2 := by
  obtain ⟨k1, k2⟩ := apart_of hap
  obtain ⟨va, rfl, a2, a3⟩ := still_step ra h1
  obtain ⟨vb, b2, b2', b3, b4⟩ := calm_step2 cb h2
  rw [put_sto] at b3
  have e1 := b4 st ((fa.like rfl).same (fun e he => (k1 e he).1)).symm (by rw [put_sto])
  refine ⟨_, e1, ?_⟩
  rw [a3 ⟨(st.put b.dst vb).env, s2.sto⟩ (Like.same (d := b.dst) (fb.like (st' := ⟨(st.put b.dst vb).env, s2.sto⟩) (v := vb) rfl) (fun e he => k2 e he)) b3]
  congr 1
  refine St.eq ?_ (by rw [put_sto])
  rw [b2, put_swap (fun d hd => (k1 d hd).2) (fun j w x e => by obtain ⟨j', g1, g2⟩ := a2 j w x e; exact ga _ _ _ g1 g2)
    (fun j w x e e2 => by
      obtain ⟨j', g1, g2⟩ := b2' j w x e
      refine (k1 j e2).1 ?_
      unfold slotsG
      rw [g1]
      simp [g2])]
  exact put_env rfl

theorem astore_env {st s : St} {t : Nat} {a v : AV} (h : astore C st t a v = some s) : s.env = st.env := by
  unfold astore at h
  cases hp : isPtr C t with
  | true => rw [hp] at h; simp at h
  | false =>
    rw [hp] at h
    simp only [cond_false] at h
    cases a with
    | pb id p =>
      simp only at h
      cases hs : st.sto id with
      | none => rw [hs] at h; cases h
      | some b =>
        rw [hs] at h
        cases b with
        | box t' vs =>
          simp only at h
          split at h
          · split at h
            · obtain ⟨_, h⟩ := cond_some h
              simp only [Option.map_eq_some_iff] at h
              obtain ⟨_, _, rfl⟩ := h; rfl
            · obtain ⟨_, h⟩ := cond_some h
              simp only [Option.map_eq_some_iff] at h
              obtain ⟨_, _, rfl⟩ := h; rfl
          · split at h
            · obtain ⟨_, h⟩ := cond_some h
              simp only [Option.map_eq_some_iff] at h
              obtain ⟨_, _, rfl⟩ := h; rfl
            · cases h
        | _ => cases h
    | pe id idx p =>
      simp only at h
      split at h
      · obtain ⟨_, h⟩ := cond_some h
        cases h; rfl
      · cases h
    | _ => cases h
theorem aimp_env {st s2 : St} {ev : Operand → AV} {op : Op} {d : Option Nat} {safe : Bool} (h : aimp C st ev op d = some (safe, s2)) : ∃ v, isCv v = false ∧ s2.env = (st.put d v).env := by
  cases d with
  | none =>
    cases op with
    | store t a x =>
      simp only [aimp, Option.map_eq_some_iff] at h
      obtain ⟨s, h, h3⟩ := h
      cases h3
      exact ⟨.junk, rfl, astore_env h⟩
    | makeMap t r => cases r <;> (simp only [aimp] at h; cases h)
    | mapUpdate t m k x =>
      simp only [aimp] at h
      split at h
      · split at h
        · obtain ⟨_, h⟩ := cond_some h; cases h; exact ⟨.junk, rfl, rfl⟩
        · cases h
      · cases h
    | call c =>
      refine ⟨.junk, rfl, ?_⟩
      show s2.env = st.env
      simp only [aimp] at h
      split at h
      · split at h
        · cases h; rfl
        · split at h
          · obtain ⟨_, h⟩ := cond_some h; cases h; rfl
          · cases h
        · cases h
      · cases h
    | _ => cases h
  | some d =>
    cases op with
    | makeMap t r =>
      cases r with
      | some _ => simp only [aimp] at h; cases h
      | none =>
        simp only [aimp] at h
        split at h
        · cases h; exact ⟨.mp d, rfl, rfl⟩
        · cases h
    | mapUpdate t m k x => simp only [aimp] at h; cases h
    | alloc t =>
      simp only [aimp] at h
      split at h
      · split at h
        · cases h; exact ⟨.pb d [], rfl, rfl⟩
        · cases h
      · split at h
        · cases h; exact ⟨.pb d [], rfl, rfl⟩
        · cases h
      · split at h
        · obtain ⟨_, h⟩ := cond_some h; cases h; exact ⟨.pb d [], rfl, rfl⟩
        · cases h
    | box t x =>
      simp only [aimp] at h
      split at h
      · cases h; exact ⟨.pb d [], rfl, rfl⟩
      · cases h
    | buildSlice t n ps =>
      simp only [aimp] at h
      split at h
      · obtain ⟨_, h⟩ := cond_some h; cases h; exact ⟨.ow d none, rfl, rfl⟩
      · cases h
    | makeSlice t l c =>
      simp only [aimp] at h
      split at h
      · rename_i e _ l _ c h1 h2 h3 h4
        cases hz : zeroT C 20 e with
        | false => rw [hz] at h; simp at h
        | true => rw [hz] at h; simp only [Bool.not_true, cond_false, Option.some.injEq, Prod.mk.injEq] at h; obtain ⟨_, rfl⟩ := h; exact ⟨.ow d none, rfl, rfl⟩
      · cases h
    | convert t1 t2 x =>
      simp only [aimp] at h
      split at h
      · split at h
        · cases h; exact ⟨.sl _ _, rfl, rfl⟩
        · cases h
      · cases h
    | call c =>
      simp only [aimp] at h
      split at h
      · split at h
        · rename_i hh
          generalize (!_ : Bool) = b at h
          cases b with
          | true => simp at h
          | false =>
            simp only [cond_false] at h
            split at h
            · cases h; exact ⟨.ow d none, rfl, rfl⟩
            · split at h
              · obtain ⟨_, h⟩ := cond_some h; cases h; exact ⟨.ow d none, rfl, rfl⟩
              · cases h
            · cases h
        · cases h
      · cases h
    | _ => cases h
theorem retOf_env {fi : Fn} {d : Option Nat} {r : U} {st s1 : St} (h : retOf C st fi d r = some s1) : ∃ v, isCv v = false ∧ s1.env = (st.put d v).env := by
  obtain ⟨v, h1, h2, _⟩ := retOf_make h
  exact ⟨v, h1, h2⟩
/-- what a step in a drawn region does to the slots -/
theorem env_step {ops : List Oper} {o : Oper} {st s1 : St} (h : oone C F true ops o st = some s1) :
    ∃ v, s1.env = (st.put o.dst v).env ∧ (isCv v = true → ∃ j' w j x, o.guard = some (j', w) ∧ dstOf ops j' = some j ∧ v = .cv j w x) := by
  have non : ∀ {v : AV}, isCv v = false → (isCv v = true → ∃ j' w j x, o.guard = some (j', w) ∧ dstOf ops j' = some j ∧ v = .cv j w x) := fun h k => by rw [h] at k; cases k
  unfold oone at h
  cases hg : o.guard with
  | none =>
    rw [hg] at h non
    simp only at h
    unfold aoperK at h
    cases he : escape C true st o.op with
    | none => rw [he] at h; cases h
    | some st1 =>
      obtain ⟨rfl, he'⟩ := escape_dr he
      rw [he] at h
      simp only at h
      cases hp : apure C st1 st1.eval o.op with
      | some p =>
        obtain ⟨safe, v⟩ := p
        rw [hp] at h
        simp only at h
        obtain ⟨rfl, h⟩ := cond_some h
        cases h
        exact ⟨_, rfl, non (isCv_dropcv v)⟩
      | none =>
        rw [hp] at h
        simp only at h
        cases hi : aimp C st1 st1.eval o.op o.dst with
        | some p =>
          obtain ⟨safe, v⟩ := p
          rw [hi] at h
          simp only at h
          obtain ⟨rfl, h⟩ := cond_some h
          cases h
          obtain ⟨v, h1, h2⟩ := aimp_env hi
          exact ⟨v, h2, non h1⟩
        | none =>
          rw [hi] at h
          simp only at h
          split at h
          · rename_i c hc
            split at h
            · rename_i x k hac
              simp only [Option.bind_eq_some_iff] at h
              obtain ⟨r, rfl, h⟩ := h
              have hk : k r = some s1 := by
                cases hq : k r with
                | none => rw [hq] at h; cases h
                | some y => rw [hq] at h; exact h
              unfold acall at hac
              cases hcal : c.callee with
              | value f =>
                rw [hcal] at hac
                simp only at hac
                cases hev : st1.eval f with
                | clo g caps =>
                  rw [hev] at hac
                  simp only at hac
                  cases hb : drBad C true f g with
                  | true => rw [hb] at hac; cases hac
                  | false =>
                    rw [hb] at hac
                    simp only [cond_false] at hac
                    unfold callF at hac
                    cases hfi : C.fn g with
                    | none => rw [hfi] at hac; cases hac
                    | some fi =>
                      rw [hfi] at hac
                      simp only at hac
                      obtain ⟨hcc, hac⟩ := cond_some hac
                      simp only [Bool.and_eq_true] at hcc
                      obtain ⟨⟨⟨⟨⟨⟨c1, c2⟩, c3⟩, c4⟩, c5⟩, c6⟩, c7⟩ := hcc
                      have hfr : (bif aliasF C fi then freezes C st1 (selOwns false fi.own (c.args.toList.map st1.eval)) else some st1) = some st1 := by
                        cases ha : aliasF C fi with
                        | false => rfl
                        | true =>
                          simp only [Bool.true_and, Bool.not_eq_true', Bool.or_eq_false_iff, ha, Bool.not_eq_false'] at c5
                          rw [List.isEmpty_iff.1 c5.2]; rfl
                      rw [hfr] at hac
                      split at hac
                      · rename_i st2 us cs e1 _ _
                        cases e1
                        simp only [Option.some.injEq, Prod.mk.injEq] at hac
                        obtain ⟨_, rfl⟩ := hac
                        obtain ⟨v, k1, k2⟩ := retOf_env hk
                        exact ⟨v, k2.trans (put_env (kills_env _ _)), non k1⟩
                      · cases hac
                | fn t u =>
                  rw [hev] at hac
                  simp only at hac
                  obtain ⟨rt, hcr⟩ := callV_read hac
                  obtain ⟨k', k1, k2⟩ := hcr st1 (SLe.refl _)
                  rw [hac] at k1
                  simp only [Option.some.injEq, Prod.mk.injEq, true_and] at k1
                  subst k1
                  rw [k2] at hk
                  cases hk
                  exact ⟨_, rfl, non (isCv_ofU _ _)⟩
                | _ => rw [hev] at hac; cases hac
              | _ => rw [hcal] at hac; cases hac
            · cases h
          · cases h
  | some p =>
    obtain ⟨j', w⟩ := p
    rw [hg] at h
    simp only at h
    cases hd : dstOf ops j' with
    | none => rw [hd] at h; cases h
    | some j =>
      rw [hd] at h
      simp only at h
      have fin : ∀ {v : AV} {d : Nat}, o.dst = some d → some (st.put (some d) (.cv j w v)) = some s1 →
          ∃ v, s1.env = (st.put o.dst v).env ∧ (isCv v = true → ∃ j'_1 w_1 j x, some (j', w) = some (j'_1, w_1) ∧ dstOf ops j'_1 = some j ∧ v = .cv j w_1 x) := by
        intro v d hd' e
        cases e
        exact ⟨.cv j w v, by rw [hd'], fun _ => ⟨j', w, j, v, rfl, hd, rfl⟩⟩
      unfold aoperG at h
      cases hge : gexp st 20 j w with
      | none => rw [hge] at h; simp at h
      | some gd =>
        cases hdst : o.dst with
        | none => rw [hge, hdst] at h; simp at h
        | some d =>
          rw [hdst] at fin
          rw [hge, hdst] at h
          simp only at h
          cases hb : Nat.beq d j with
          | true => rw [hb] at h; cases h
          | false =>
            rw [hb] at h
            simp only [cond_false] at h
            split at h
            · rename_i safe v hap
              cases hcv : isCv v with
              | true => rw [hcv] at h; cases h
              | false =>
                rw [hcv] at h
                simp only [cond_false] at h
                obtain ⟨_, h⟩ := cond_some h
                exact fin rfl h
            · split at h
              · split at h
                · split at h
                  · split at h
                    · split at h
                      · obtain ⟨_, h⟩ := cond_some h
                        simp only [Option.bind_eq_some_iff] at h
                        obtain ⟨r, _, h⟩ := h
                        exact fin rfl h
                      · cases h
                    · cases h
                  · split at h
                    · obtain ⟨_, h⟩ := cond_some h
                      simp only [Option.bind_eq_some_iff] at h
                      obtain ⟨r, _, h⟩ := h
                      exact fin rfl h
                    · cases h
                  · cases h
                · cases h
              · cases h

/-- what may hang on what, once some are done -/
def Hung (ops : List Oper) (S : Nat → Prop) (st : St) : Prop := ∀ t j w v, look st.env t = .cv j w v → ∃ p, S p ∧ dstOf ops p = some j
theorem Hung.mono {ops : List Oper} {S S' : Nat → Prop} {st : St} (h : Hung ops S st) (k : ∀ p, S p → S' p) : Hung ops S' st := fun t j w v e => let ⟨p, a, b⟩ := h t j w v e; ⟨p, k p a, b⟩
theorem Hung.step {ops : List Oper} {S : Nat → Prop} {o : Oper} {st s1 : St} (hH : Hung ops S st) (hgd : ∀ j' w, o.guard = some (j', w) → S j') (h : oone C F true ops o st = some s1) : Hung ops S s1 := by
  obtain ⟨v, h1, h2⟩ := env_step h
  intro t j w x e
  rw [h1] at e
  cases hd : o.dst with
  | none => rw [hd] at e; exact hH t j w x e
  | some d =>
    rw [hd, look_put] at e
    split at e
    · split at e
      · subst e
        obtain ⟨j', w', j2, x2, g1, g2, g3⟩ := h2 rfl
        cases g3
        exact ⟨j', hgd _ _ g1, g2⟩
      · cases e
    · cases hl : look st.env t with
      | cv j3 w3 x3 =>
        rw [hl] at e
        simp only [killcv] at e
        cases hb : Nat.beq j3 d with
        | true => rw [hb] at e; cases e
        | false => rw [hb] at e; cases e; exact hH t _ _ _ hl
      | _ => rw [hl] at e; cases e

structure SlotOk (ops : List Oper) : Prop where
  uniq : ∀ p q d, dstOf ops p = some d → dstOf ops q = some d → p = q
  guard : ∀ o ∈ ops, ∀ j w, o.guard = some (j, w) → j ∈ before o
theorem dstOf_lt {ops : List Oper} {p d : Nat} (h : dstOf ops p = some d) : p < ops.length := by
  unfold dstOf at h
  cases hp : ops[p]? with
  | none => rw [hp] at h; cases h
  | some o => exact (List.getElem?_eq_some_iff.1 hp).1
theorem slotOk_of {ops : List Oper} (h : slotOk ops = true) : SlotOk ops := by
  unfold slotOk at h
  simp only [Bool.and_eq_true, List.all_eq_true, List.mem_range] at h
  obtain ⟨h1, h2⟩ := h
  constructor
  · intro p q d hp hq
    have := h1 p (dstOf_lt hp) q (dstOf_lt hq)
    rw [hp, hq] at this
    simpa [nbeq] using this
  · intro o ho j w hg
    have := h2 o ho
    rw [hg] at this
    simpa [nbeq] using this
theorem Hung.free {ops : List Oper} (ok : SlotOk ops) {S : Nat → Prop} {st : St} (h : Hung ops S st) {i : Nat} (hi : ¬ S i) : Free st (dstOf ops i) := by
  intro t j w v e hd
  obtain ⟨p, hp, hpd⟩ := h t j w v e
  exact hi (ok.uniq _ _ _ hpd hd ▸ hp)
def Topo (ops : List Oper) : (Nat → Prop) → List Nat → Prop
  | _, [] => True
  | S, i :: l => (∃ o, ops[i]? = some o ∧ ∀ q ∈ before o, S q) ∧ Topo ops (fun q => S q ∨ q = i) l
theorem Topo.mono {ops : List Oper} : ∀ {l : List Nat} {S S' : Nat → Prop}, (∀ q, S q → S' q) → Topo ops S l → Topo ops S' l
  | [], _, _, _, _ => trivial
  | i :: l, S, S', h, k => by
    obtain ⟨⟨o, k1, k2⟩, k3⟩ := k
    exact ⟨⟨o, k1, fun q hq => h q (k2 q hq)⟩, Topo.mono (fun q => Or.imp (h q) id) k3⟩
theorem Topo.erase {ops : List Oper} {i : Nat} : ∀ {pre post : List Nat} {S : Nat → Prop}, Topo ops S (pre ++ i :: post) → Topo ops (fun q => S q ∨ q = i) (pre ++ post)
  | [], _, _, h => h.2
  | p :: pre, post, S, h => by
    obtain ⟨⟨o, k1, k2⟩, k3⟩ := h
    refine ⟨⟨o, k1, fun q hq => .inl (k2 q hq)⟩, (Topo.erase (pre := pre) k3).mono ?_⟩
    intro q hq
    rcases hq with (h | h) | h
    · exact .inl (.inl h)
    · exact .inr h
    · exact .inl (.inr h)
theorem topo_of {ops : List Oper} : ∀ {l done : List Nat}, topo ops done l = true → Topo ops (· ∈ done) l ∧ l.Nodup ∧ ∀ i ∈ l, i ∉ done
  | [], _, _ => ⟨trivial, .nil, by simp⟩
  | i :: l, done, h => by
    simp only [topo, Bool.and_eq_true] at h
    obtain ⟨h1, h2⟩ := h
    obtain ⟨k1, k2, k3⟩ := topo_of h2
    simp only [readyNow, Bool.and_eq_true, Bool.not_eq_true', List.any_eq_false, nbeq, decide_eq_true_eq] at h1
    obtain ⟨h3, h4⟩ := h1
    have hi : i ∉ done := fun hm => h3 i hm rfl
    refine ⟨⟨?_, ?_⟩, ?_, ?_⟩
    · cases ho : ops[i]? with
      | none => rw [ho] at h4; cases h4
      | some o =>
        rw [ho] at h4
        refine ⟨o, rfl, fun q hq => ?_⟩
        simp only [List.all_eq_true] at h4
        have := h4 q hq
        simpa [nbeq] using this
    · refine k1.mono ?_
      intro q hq
      rcases List.mem_cons.1 hq with h | h
      · exact .inr h
      · exact .inl h
    · exact List.nodup_cons.2 ⟨fun hm => k3 i hm (by simp), k2⟩
    · intro j hj
      rcases List.mem_cons.1 hj with h | h
      · rw [h]; exact hi
      · exact fun hd => k3 j h (List.mem_cons_of_mem _ hd)
def PairsOk (C : Ctx) (st : St) (ops : List Oper) (l : List Nat) : Prop := l.Pairwise fun i j => pairOk C st ops i j = true
theorem pairsOk_of {st : St} {ops : List Oper} : ∀ {l : List Nat}, pairsOk C st ops l = true → PairsOk C st ops l
  | [], _ => .nil
  | i :: l, h => by
    simp only [pairsOk, Bool.and_eq_true, List.all_eq_true] at h
    exact .cons h.1 (pairsOk_of h.2)
theorem ahead_done {ops : List Oper} {S : Nat → Prop} (hS : ∀ q o, S q → ops[q]? = some o → ∀ p ∈ before o, S p) : ∀ {k p : Nat} {b : Oper}, (∀ q ∈ before b, S q) → ahead ops k p b = true → S p
  | 0, _, _, _, h => by simp [ahead] at h
  | k + 1, p, b, hb, h => by
    simp only [ahead, List.any_eq_true, Bool.or_eq_true, nbeq, decide_eq_true_eq] at h
    obtain ⟨q, hq, h⟩ := h
    rcases h with rfl | h
    · exact hb _ hq
    · cases ho : ops[q]? with
      | none => rw [ho] at h; cases h
      | some o => rw [ho] at h; exact ahead_done hS (hS q o (hb q hq) ho) h

def opsAt (ops : List Oper) (l : List Nat) : List Oper := l.filterMap fun i => ops[i]?
theorem opsAt_cons {ops : List Oper} {i : Nat} {l : List Nat} {o : Oper} (h : ops[i]? = some o) : opsAt ops (i :: l) = o :: opsAt ops l := by simp [opsAt, h]

theorem setField_same {st st' : St} (e : st'.sto = st.sto) {t : Nat} {a v x : AV} {p : List Nat} (h : setField C st t a v p = some x) : setField C st' t a v p = some x := by
  cases p with
  | nil =>
    simp only [setField] at h ⊢
    obtain ⟨hf, h⟩ := cond_some h
    rw [fitsArg_mono (SLe.of_eq e) hf]; exact h
  | cons j p => exact h
theorem blk_same {st st' : St} (e : st'.sto = st.sto) (id : Nat) (b : Blk) : st'.blk id b = ⟨st'.env, (st.blk id b).sto⟩ := by simp [St.blk, e]
theorem astore_same {st st' s : St} (e : st'.sto = st.sto) {t : Nat} {a v : AV} (h : astore C st t a v = some s) : astore C st' t a v = some ⟨st'.env, s.sto⟩ := by
  unfold astore at h ⊢
  cases hp : isPtr C t with
  | true => rw [hp] at h; simp at h
  | false =>
    rw [hp] at h
    simp only [cond_false] at h ⊢
    rw [e]
    cases a with
    | pb id p =>
      simp only at h ⊢
      cases hs : st.sto id with
      | none => rw [hs] at h; cases h
      | some b =>
        rw [hs] at h
        cases b with
        | box t' vs =>
          simp only at h ⊢
          split at h
          · split at h
            · obtain ⟨hc, h⟩ := cond_some h
              simp only [Option.map_eq_some_iff] at h
              obtain ⟨y, hy, rfl⟩ := h
              simp only [hc, cond_true, unbox_mono (SLe.of_eq e) hy, Option.map_some, blk_same e]
            · obtain ⟨hc, h⟩ := cond_some h
              simp only [Option.map_eq_some_iff] at h
              obtain ⟨y, hy, rfl⟩ := h
              simp only [hc, cond_true, setField_same e hy, Option.map_some, blk_same e]
          · split at h
            · obtain ⟨hc, h⟩ := cond_some h
              simp only [Option.map_eq_some_iff] at h
              obtain ⟨y, hy, rfl⟩ := h
              simp only [hc, cond_true, unbox_mono (SLe.of_eq e) hy, Option.map_some, blk_same e]
            · cases h
        | _ => cases h
    | pe id idx p =>
      simp only at h ⊢
      split at h
      · obtain ⟨hc, h⟩ := cond_some h
        cases h
        simp only [hc, cond_true, blk_same e]
      · cases h
    | _ => cases h
theorem append_same {st s : St} {ev : Operand → AV} {c : Call} {d : Option Nat} {safe : Bool} (h : aimp C st ev (.call c) d = some (safe, s)) :
    ∃ v, isCv v = false ∧ s.env = (st.put d v).env ∧ ∀ st' : St, st'.sto = st.sto → aimp C st' ev (.call c) d = some (safe, ⟨(st'.put d v).env, s.sto⟩) := by
  cases d with
  | none =>
    refine ⟨.junk, rfl, ?_⟩
    show s.env = st.env ∧ ∀ st' : St, st'.sto = st.sto → aimp C st' ev (.call c) none = some (safe, ⟨st'.env, s.sto⟩)
    simp only [aimp] at h ⊢
    split at h
    · split at h
      · cases h; exact ⟨rfl, fun st' e => by rw [← e]⟩
      · split at h
        · rename_i hs
          obtain ⟨hc, h⟩ := cond_some h
          cases h
          exact ⟨rfl, fun st' e => by simp only [e, hs, hc, cond_true, blk_same e]⟩
        · cases h
      · cases h
    · cases h
  | some d =>
    refine ⟨.ow d none, rfl, ?_⟩
    simp only [aimp] at h ⊢
    split at h
    · split at h
      · rename_i hs he hap
        generalize hb : (!_ : Bool) = b at h
        cases b with
        | true => simp at h
        | false =>
          simp only [cond_false] at h
          split at h
          · cases h
            refine ⟨rfl, fun st' e => ?_⟩
            have ha : ∀ y, appended st' y = appended st y := fun y => by unfold appended; rw [e]
            have hel : ∀ y, eltOf st' y = eltOf st y := fun y => by unfold eltOf; rw [e]
            simp only [ha, hel, e, hs, he, hap, hb, cond_false]
            congr 2
            refine St.eq rfl ?_
            simp only [put_sto, blk_same e]
          · split at h
            · rename_i hid
              obtain ⟨hc, h⟩ := cond_some h
              cases h
              refine ⟨rfl, fun st' e => ?_⟩
              have ha : ∀ y, appended st' y = appended st y := fun y => by unfold appended; rw [e]
              have hel : ∀ y, eltOf st' y = eltOf st y := fun y => by unfold eltOf; rw [e]
              simp only [ha, hel, e, hs, he, hap, hb, cond_false, hid, hc, cond_true]
              congr 2
              refine St.eq rfl ?_
              simp only [put_sto]
              simp [St.blk, e]
            · cases h
          · cases h
      · cases h
    · cases h
theorem ownOk_env {s : Sto} {e1 e2 : List AV} : ∀ (os : List (Option Bool)) (as : List AV), ownOk ⟨e1, s⟩ os as = ownOk ⟨e2, s⟩ os as
  | _, [] => rfl
  | os, x :: xs => by
    have ih := ownOk_env (s := s) (e1 := e1) (e2 := e2) os.tail xs
    unfold ownOk
    rw [ih]
theorem capIds_env {s : Sto} {e1 e2 : List AV} : ∀ (cs : List Cap), capIds ⟨e1, s⟩ cs = capIds ⟨e2, s⟩ cs
  | [] => rfl
  | .ro _ _ :: l => by simp only [capIds]; exact capIds_env l
  | .own id :: l => by simp only [capIds, capIds_env (s := s) (e1 := e1) (e2 := e2) l]
theorem argIds_env {s : Sto} {e1 e2 : List AV} (a : AV) : argIds ⟨e1, s⟩ a = argIds ⟨e2, s⟩ a := by
  cases a <;> simp only [argIds]
  exact capIds_env _
theorem ownOk_arr {st : St} : ∀ {os : List (Option Bool)} {as : List AV}, ownOk st os as = true → ∀ id ∈ selOwns true os as, ∃ e z xs, st.sto id = some (.arr e z xs)
  | _, [], _, id, h => by simp [selOwns] at h
  | os, x :: xs, h, id, hm => by
    simp only [ownOk, Bool.and_eq_true] at h
    simp only [selOwns, List.mem_append] at hm
    rcases hm with hm | hm
    · cases ho : hd0 os with
      | none => rw [ho] at hm; simp at hm
      | some b =>
        rw [ho] at h hm
        simp only [Option.isSome_some, BEq.rfl, cond_true] at hm
        have h1 := h.1
        cases x with
        | ow i r =>
          cases r with
          | none =>
            simp only [ownsOf, List.mem_singleton] at hm
            subst hm
            simp only at h1
            cases hs : st.sto id with
            | none => rw [hs] at h1; cases h1
            | some bk =>
              cases bk with
              | arr e z xs => exact ⟨_, _, _, rfl⟩
              | _ => rw [hs] at h1; cases h1
          | some p => cases h1
        | nl => simp [ownsOf] at hm
        | _ => cases h1
    · exact ownOk_arr h.2 id hm
theorem callF_own {F : Nat → List U → Option U} {st : St} {g : Nat} {as : List AV} {d : Option Nat} {x : Option U} {k : U → Option St} {fi : Fn} (hfi : C.fn g = some fi) (hod : ownDr C fi = true)
    (h : callF C F true st g [] as d = some (x, k)) : ∃ own : List Nat, (∀ id ∈ own, ∃ e z xs, st.sto id = some (.arr e z xs)) ∧ (∀ r, k r = retOf C (kills st own) fi d r) ∧
      ∀ st' : St, st'.sto = st.sto → callF C F true st' g [] as d = some (x, fun r => retOf C (kills st' own) fi d r) := by
  have hal : aliasF C fi = false := by
    unfold ownDr at hod
    cases ha : aliasF C fi with
    | false => rfl
    | true => rw [ha] at hod; cases hod
  unfold callF at h ⊢
  simp only [hfi, hal, cond_false, Bool.false_and, Bool.or_false, Bool.not_false, Bool.true_and] at h ⊢
  obtain ⟨hc, h2⟩ := cond_some h
  clear h
  have hc' := hc
  simp only [Bool.and_eq_true] at hc'
  have hok : ownOk st fi.own as = true := hc'.1.1.1.1.1.2
  cases hus : argUs C st as with
  | none => rw [hus] at h2; simp at h2
  | some us =>
    cases hcs : capUs C st [] with
    | none => rw [hus, hcs] at h2; simp at h2
    | some cs =>
      rw [hus, hcs] at h2
      simp only [Option.some.injEq, Prod.mk.injEq] at h2
      obtain ⟨rfl, rfl⟩ := h2
      refine ⟨selOwns true fi.own as, ownOk_arr hok, fun r => rfl, fun st' e => ?_⟩
      obtain ⟨e1, s1⟩ := st
      obtain ⟨e2, s2⟩ := st'
      have e : s2 = s1 := e
      subst e
      have hle : SLe (⟨e1, s2⟩ : St).sto (⟨e2, s2⟩ : St).sto := SLe.refl _
      have hle2 : SLe (⟨e2, s2⟩ : St).sto (⟨e1, s2⟩ : St).sto := SLe.refl _
      have f1 : fitsArgs C ⟨e2, s2⟩ fi.params as = fitsArgs C ⟨e1, s2⟩ fi.params as := by
        cases hx : fitsArgs C ⟨e1, s2⟩ fi.params as with
        | true => exact fitsArgs_mono hle hx
        | false =>
          cases hy : fitsArgs C ⟨e2, s2⟩ fi.params as with
          | false => rfl
          | true => rw [fitsArgs_mono hle2 hy] at hx; cases hx
      have f2 : as.flatMap (argIds ⟨e2, s2⟩) = as.flatMap (argIds ⟨e1, s2⟩) := by
        congr 1; funext a; exact argIds_env a
      have hcond := hc
      simp only [← ownOk_env (s := s2) (e1 := e2) (e2 := e1), ← capIds_env (s := s2) (e1 := e2) (e2 := e1), ← f1, ← f2] at hcond
      have hl : ∀ i, liveB (⟨e2, s2⟩ : St) i = liveB (⟨e1, s2⟩ : St) i := fun _ => rfl
      have hct : capTs (⟨e2, s2⟩ : St) [] = capTs (⟨e1, s2⟩ : St) [] := rfl
      simp only [hl, hct]
      rw [hcond, argUs_mono hle hus, capUs_mono hle hcs]
      rfl
theorem retOf_own {st s : St} {fi : Fn} {d : Option Nat} {r : U} (hod : ownDr C fi = true) (h : retOf C st fi d r = some s) :
    ∃ v, isCv v = false ∧ s.env = (st.put d v).env ∧ (∀ i tt vs, st.sto i = some (.box tt vs) → s.sto i = st.sto i) ∧ ∀ st' : St, st'.sto = st.sto → retOf C st' fi d r = some ⟨(st'.put d v).env, s.sto⟩ := by
  have hr : ∃ t, fi.rts = [t] := by
    unfold ownDr at hod
    cases hrt : fi.rts with
    | nil => rw [hrt] at hod; simp at hod
    | cons t ts =>
      cases ts with
      | nil => exact ⟨t, rfl⟩
      | cons _ _ => rw [hrt] at hod; simp at hod
  obtain ⟨t, ht⟩ := hr
  cases d with
  | none =>
    simp only [retOf, ht] at h ⊢
    cases h
    exact ⟨.junk, rfl, rfl, fun _ _ _ _ => rfl, fun st' e => by rw [← e]; rfl⟩
  | some d =>
    simp only [retOf, ht] at h ⊢
    cases ho : hd0 fi.out with
    | none =>
      rw [ho] at h
      simp only [Option.some.injEq] at h
      subst h
      exact ⟨ofU C t r, isCv_ofU _ _, rfl, fun _ _ _ _ => by rw [put_sto], fun st' e => by rw [put_sto, ← e]; simp only [Option.some.injEq]; exact St.eq rfl (put_sto ..)⟩
    | some b =>
      rw [ho] at h
      simp only at h ⊢
      cases hs : st.sto d with
      | some bk => rw [hs] at h; simp at h
      | none =>
        cases he : elt C t with
        | none => rw [hs, he] at h; simp at h
        | some e =>
          rw [hs, he] at h
          simp only [Option.some.injEq] at h
          subst h
          refine ⟨.ow d none, rfl, rfl, fun i tt vs hb => ?_, fun st' e => ?_⟩
          · rw [put_sto]
            show (bif Nat.beq i d then _ else st.sto i) = _
            have : i ≠ d := fun e => by rw [e, hs] at hb; cases hb
            rw [nbeq, decide_eq_false this]; rfl
          · rw [e, hs]
            simp only [Option.some.injEq]
            refine St.eq rfl ?_
            rw [put_sto, put_sto]
            funext i
            show (bif Nat.beq i d then _ else st'.sto i) = (bif Nat.beq i d then _ else st.sto i)
            rw [e]
/-- whatever it is: its step looks at its operands and the store alone -/
theorem any_step {ops : List Oper} {o : Oper} {st s1 : St} (hg : o.guard = none) (h : oone C F true ops o st = some s1) :
    ∃ v, isCv v = false ∧ s1.env = (st.put o.dst v).env ∧ ∀ st' : St, st'.sto = st.sto → (∀ x ∈ o.op.operands, st'.eval x = st.eval x) → oone C F true ops o st' = some ⟨(st'.put o.dst v).env, s1.sto⟩ := by
  cases hc : isCalm C o with
  | true =>
    obtain ⟨v, h1, h2, _, h4⟩ := calm_step hc hg h
    exact ⟨v, h1, h2, h4⟩
  | false =>
    simp only [oone, hg] at h ⊢
    unfold aoperK at h
    cases he : escape C true st o.op with
    | none => rw [he] at h; cases h
    | some st1 =>
      obtain ⟨rfl, he'⟩ := escape_dr he
      rw [he] at h
      simp only at h
      cases ho : o.op with
      | store t a x =>
        rw [ho] at h
        simp only [apure] at h
        cases hi : aimp C st1 st1.eval (.store t a x) o.dst with
        | none => rw [hi] at h; simp at h
        | some p =>
          obtain ⟨safe, s2⟩ := p
          rw [hi] at h
          simp only at h
          obtain ⟨rfl, h⟩ := cond_some h
          cases h
          cases hd : o.dst with
          | some d => rw [hd] at hi; simp [aimp] at hi
          | none =>
            rw [hd] at hi
            simp only [aimp, Option.map_eq_some_iff] at hi
            obtain ⟨s3, h3, h4⟩ := hi
            cases h4
            refine ⟨.junk, rfl, astore_env h3, fun st' e hs => ?_⟩
            unfold aoperK
            rw [he' st' (by rw [ho]; exact hs), ho, hd]
            simp only [apure, aimp, hs a (by simp [Op.operands]), hs x (by simp [Op.operands]), astore_same e h3, Option.map_some, cond_true]
            rfl
      | makeMap t r =>
        rw [ho] at h
        simp only [apure] at h
        cases hi : aimp C st1 st1.eval (.makeMap t r) o.dst with
        | none => rw [hi] at h; simp at h
        | some p =>
          obtain ⟨safe, s2⟩ := p
          rw [hi] at h
          simp only at h
          obtain ⟨rfl, h⟩ := cond_some h
          cases h
          cases hd : o.dst with
          | none => rw [hd] at hi; cases r <;> simp [aimp] at hi
          | some d =>
            cases r with
            | some _ => rw [hd] at hi; simp [aimp] at hi
            | none =>
              rw [hd] at hi
              simp only [aimp] at hi
              split at hi
              · rename_i kt vt bt hte hsd
                cases hi
                refine ⟨.mp d, rfl, rfl, fun st' e hs => ?_⟩
                unfold aoperK
                rw [he' st' (by rw [ho]; exact hs), ho, hd]
                simp only [apure, aimp, hte, e, hsd, cond_true]
                simp [St.put, St.blk, e]
              · cases hi
      | mapUpdate t m k x =>
        rw [ho] at h
        simp only [apure] at h
        cases hi : aimp C st1 st1.eval (.mapUpdate t m k x) o.dst with
        | none => rw [hi] at h; simp at h
        | some p =>
          obtain ⟨safe, s2⟩ := p
          rw [hi] at h
          simp only at h
          obtain ⟨rfl, h⟩ := cond_some h
          cases h
          cases hd : o.dst with
          | some d => rw [hd] at hi; simp [aimp] at hi
          | none =>
            rw [hd] at hi
            simp only [aimp] at hi
            split at hi
            · rename_i kt vt bt id y u h1 h2 h3 h4
              split at hi
              · rename_i t' es hs1 hs2
                obtain ⟨hcc, hi⟩ := cond_some hi
                cases hi
                refine ⟨.junk, rfl, rfl, fun st' e hs => ?_⟩
                unfold aoperK
                rw [he' st' (by rw [ho]; exact hs), ho, hd]
                simp only [apure, aimp, hs m (by simp [Op.operands]), hs k (by simp [Op.operands]), hs x (by simp [Op.operands]), h1, h2, h3, h4, e, hs1, hs2, hcc, cond_true]
                simp [St.put, St.blk, e]
              · cases hi
            · cases hi
      | call c =>
        rw [ho] at h
        have hmap : ∀ st' : St, (∀ x ∈ (Op.call c).operands, st'.eval x = st1.eval x) → c.args.toList.map st'.eval = c.args.toList.map st1.eval := fun st' hs => List.map_congr_left fun x hx => hs x (by simp only [Op.operands, Call.operands]; cases c.callee <;> simp <;> first | exact .inr (by simpa using hx) | simpa using hx)
        have hpn : ∀ (st' : St), apure C st' st'.eval (.call c) = none := by
          intro st'
          simp only [isCalm, clsOf, ho] at hc
          simp only [apure]
          cases hcal : c.callee with
          | builtin b => cases b <;> simp [hcal] at hc ⊢
          | _ => simp
        rw [hpn] at h
        simp only at h
        cases hi : aimp C st1 st1.eval (.call c) o.dst with
        | some p =>
          obtain ⟨safe, s2⟩ := p
          rw [hi] at h
          simp only at h
          obtain ⟨rfl, h⟩ := cond_some h
          cases h
          obtain ⟨v, k1, k2, k3⟩ := append_same hi
          refine ⟨v, k1, k2, fun st' e hs => ?_⟩
          have hev : aimp C st' st'.eval (.call c) o.dst = aimp C st' st1.eval (.call c) o.dst := by
            cases o.dst <;> simp only [aimp, hmap st' hs]
          unfold aoperK
          rw [he' st' (by rw [ho]; exact hs), ho]
          simp only [hpn, hev, k3 st' e, cond_true]
        | none =>
          rw [hi] at h
          simp only at h
          have hin : ∀ st' : St, st'.sto = st1.sto → (∀ x ∈ (Op.call c).operands, st'.eval x = st1.eval x) → aimp C st' st'.eval (.call c) o.dst = none := by
            intro st' e hs
            cases hq : aimp C st' st'.eval (.call c) o.dst with
            | none => rfl
            | some p =>
              have hev : aimp C st' st'.eval (.call c) o.dst = aimp C st' st1.eval (.call c) o.dst := by
                cases o.dst <;> simp only [aimp, hmap st' hs]
              rw [hev] at hq
              obtain ⟨_, _, _, k3⟩ := append_same hq
              rw [k3 st1 e.symm] at hi; cases hi
          cases hcal : c.callee with
          | value f =>
            simp only [acall, hcal] at h
            simp only [isCalm, clsOf, ho, hcal] at hc
            cases f with
            | func g =>
              simp only [St.eval, drBad, Bool.true_and, Bool.not_true, cond_false] at h
              cases hfn : C.fn g with
              | none => simp [callF, hfn] at h
              | some fi =>
                simp only [hfn] at hc
                have hno : fi.own.all Option.isNone = false := by
                  cases hx : fi.own.all Option.isNone with
                  | false => rfl
                  | true =>
                    simp only [hx, cond_true] at hc
                    cases hy : fi.out.all Option.isNone <;> simp [hy] at hc
                have hod : ownDr C fi = true := by
                  cases hx : ownDr C fi with
                  | true => rfl
                  | false => simp [callF, hfn, hno, hx] at h
                cases hcf : callF C F true st1 g [] (c.args.toList.map st1.eval) o.dst with
                | none => rw [hcf] at h; simp at h
                | some p =>
                  obtain ⟨x, k⟩ := p
                  rw [hcf] at h
                  simp only [Option.bind_eq_some_iff] at h
                  obtain ⟨r, hx, h⟩ := h
                  obtain ⟨own, ow1, ow2, ow3⟩ := callF_own hfn hod hcf
                  rw [ow2] at h
                  cases hret : retOf C (kills st1 own) fi o.dst r with
                  | none => rw [hret] at h; cases h
                  | some s2 =>
                    rw [hret] at h
                    cases h
                    obtain ⟨v, v1, v2, _, v4⟩ := retOf_own hod hret
                    refine ⟨v, v1, ?_, fun st' e hs => ?_⟩
                    · rw [v2]
                      exact put_env (kills_env _ _)
                    · unfold aoperK
                      rw [he' st' (by rw [ho]; exact hs), ho]
                      simp only [hpn, hin st' e hs, acall, hcal, St.eval, drBad, Bool.true_and, Bool.not_true, cond_false]
                      have hm2 : c.args.toList.map st'.eval = c.args.toList.map st1.eval := hmap st' hs
                      have hm3 : (c.args.toList.map fun x => st'.eval x) = c.args.toList.map st1.eval := hm2
                      rw [hm2, ow3 st' e, hx]
                      simp only [Option.bind_some]
                      have hks : (kills st' own).sto = (kills st1 own).sto := by funext i; rw [kills_sto, kills_sto, e]
                      rw [v4 (kills st' own) hks]
                      simp only [Option.some.injEq]
                      exact St.eq (put_env (kills_env _ _)) rfl
            | _ => simp at hc
          | _ => simp only [acall, hcal] at h; simp at h
      | convert t1 t2 x =>
        exfalso
        have : clsOf C (.convert t1 t2 x) = .pure ∨ clsOf C (.convert t1 t2 x) = .makes := by
          simp only [clsOf]
          split <;> simp
        unfold isCalm at hc
        rw [ho] at hc
        rcases this with h' | h' <;> rw [h'] at hc <;> simp at hc
      | _ => first | (simp [isCalm, clsOf, ho] at hc; done) | (rw [ho] at h; cases hd : o.dst <;> rw [hd] at h <;> simp [apure, aimp] at h)

/-- a move passes whatever does not look at its slots -/
theorem swapM {ops : List Oper} {a b : Oper} {st s1 s2 : St} (ra : isMove a = true) (hb : b.guard = none) (hap : apart ops a b = true) (fa : Free st a.dst) (fb : Free st b.dst)
    (h1 : oone C F true ops a st = some s1) (h2 : oone C F true ops b s1 = some s2) : ∃ s1', oone C F true ops b st = some s1' ∧ oone C F true ops a s1' = some s2 := by
  obtain ⟨k1, k2⟩ := apart_of hap
  have hga : a.guard = none := by
    unfold isMove at ra
    split at ra <;> simp_all
  have mv : ∃ x, (a.op = .move x ∨ a.op = .assign x) := by
    unfold isMove at ra
    split at ra
    · exact ⟨_, .inl ‹_›⟩
    · exact ⟨_, .inr ‹_›⟩
    · cases ra
  obtain ⟨x, hx⟩ := mv
  have stp : ∀ st : St, oone C F true ops a st = some (st.put a.dst (dropcv (st.eval x))) := by
    intro st
    simp only [oone, hga]
    unfold aoperK
    rcases hx with hx | hx <;> simp [hx, escape, escs, apure]
  have hxo : x ∈ a.op.operands := by rcases hx with hx | hx <;> rw [hx] <;> simp [Op.operands]
  rw [stp] at h1
  cases h1
  obtain ⟨vb, b1, b2, b4⟩ := any_step hb h2
  have e1 := b4 st (by rw [put_sto]) ((fa.like rfl).same (ops := ops) (fun e he => (k1 e he).1)).symm.eval
  refine ⟨_, e1, ?_⟩
  rw [stp]
  have hxe : (⟨(st.put b.dst vb).env, s2.sto⟩ : St).eval x = st.eval x := (Like.same (d := b.dst) (fb.like (st' := ⟨(st.put b.dst vb).env, s2.sto⟩) (v := vb) rfl) (ops := ops) (o := a) (fun e he => k2 e he)).eval x hxo
  rw [hxe]
  congr 1
  refine St.eq ?_ (by rw [put_sto])
  rw [b2, put_swap (fun d hd => (k1 d hd).2) (.of (isCv_dropcv _)) (.of b1)]
  exact put_env rfl

theorem aload_at {st st' : St} {t i : Nat} {p : List Nat} (h : st'.sto i = st.sto i) : aload C st' t (.pb i p) = aload C st t (.pb i p) := by
  unfold aload
  simp only [h]
theorem aload_rp {st st' : St} {t t' : Nat} {u : U} : aload C st' t (.rp t' u) = aload C st t (.rp t' u) := by
  unfold aload
  rfl
theorem astore_sto {st s : St} {t j : Nat} {q : List Nat} {v : AV} (h : astore C st t (.pb j q) v = some s) : ∀ i, i ≠ j → s.sto i = st.sto i := by
  have fin : ∀ b, s = st.blk j b → ∀ i, i ≠ j → s.sto i = st.sto i := by
    rintro b rfl i hi
    simp [St.blk, nbeq, hi]
  unfold astore at h
  cases hp : isPtr C t with
  | true => rw [hp] at h; simp at h
  | false =>
    rw [hp] at h
    simp only [cond_false] at h
    split at h
    · split at h
      · split at h
        · obtain ⟨hc, h⟩ := cond_some h
          simp only [Option.map_eq_some_iff] at h
          obtain ⟨y, hy, rfl⟩ := h
          exact fin _ rfl
        · obtain ⟨hc, h⟩ := cond_some h
          simp only [Option.map_eq_some_iff] at h
          obtain ⟨y, hy, rfl⟩ := h
          exact fin _ rfl
      · split at h
        · obtain ⟨hc, h⟩ := cond_some h
          simp only [Option.map_eq_some_iff] at h
          obtain ⟨y, hy, rfl⟩ := h
          exact fin _ rfl
        · cases h
    · cases h
theorem appended_le {st st' : St} (h : ∀ i b, st.sto i = some b → st'.sto i = some b) {y : AV} {ys : List U} (k : appended st y = some ys) : appended st' y = some ys ∧ eltOf st' y = eltOf st y := by
  cases y with
  | ow id r =>
    simp only [appended, eltOf] at k ⊢
    cases hs : st.sto id with
    | none => rw [hs] at k; cases k
    | some b => rw [h _ _ hs]; rw [hs] at k; exact ⟨k, rfl⟩
  | _ => exact ⟨k, rfl⟩
/-- what an append does to the store -/
theorem aappend_form {st s : St} {c : Call} {d : Option Nat} {safe : Bool} (hc : isAppend c = true) (h : aimp C st st.eval (.call c) d = some (safe, s)) :
    ∃ (d' : Nat) (own : List Nat) (B : Blk), d = some d' ∧ st.sto d' = none ∧ (∀ id, id ∈ own → ∃ e z xs, st.sto id = some (.arr e z xs)) ∧ (∀ i, s.sto i = if i = d' then some B else if i ∈ own then some .dead else st.sto i) ∧ s.env = (st.put (some d') (.ow d' none)).env ∧
      ∀ st' : St, (∀ i b, st.sto i = some b → st'.sto i = some b) → st'.sto d' = none → (∀ x ∈ (Op.call c).operands, st'.eval x = st.eval x) → ∃ s', aimp C st' st'.eval (.call c) d = some (safe, s') ∧ s'.env = (st'.put (some d') (.ow d' none)).env ∧ ∀ i, s'.sto i = if i = d' then some B else if i ∈ own then some .dead else st'.sto i := by
  have hcal : c.callee = .builtin .append := by
    unfold isAppend at hc
    split at hc
    · assumption
    · cases hc
  have hmap : ∀ st' : St, (∀ x ∈ (Op.call c).operands, st'.eval x = st.eval x) → c.args.toList.map st'.eval = c.args.toList.map st.eval := fun st' hs => List.map_congr_left fun x hx => hs x (by simp only [Op.operands, Call.operands]; cases c.callee <;> simp <;> first | exact .inr (by simpa using hx) | simpa using hx)
  cases d with
  | none => simp only [aimp, hcal] at h; cases h
  | some d =>
    simp only [aimp, hcal] at h
    split at h
    · rename_i x y t t' hcal2 hargs htys
      split at h
      · rename_i e ys hs he hap
        generalize hb : (!_ : Bool) = b at h
        cases b with
        | true => simp at h
        | false =>
          simp only [cond_false] at h
          split at h
          · cases h
            refine ⟨d, [], .arr e true ys, rfl, hs, (fun id hi => by cases hi), (fun i => by by_cases hi : i = d <;> simp [put_sto, St.blk, nbeq, hi]), rfl, fun st' hle hd hev => ?_⟩
            obtain ⟨a1, a2⟩ := appended_le hle hap
            refine ⟨(st'.blk d (.arr e true ys)).put (some d) (.ow d none), by simp only [aimp, hcal, hmap st' hev, hargs, htys, hd, he, a1, a2, hb, cond_false], rfl, fun i => by by_cases hi : i = d <;> simp [put_sto, St.blk, nbeq, hi]⟩
          · split at h
            · rename_i id _ e' z xs hid
              obtain ⟨hcc, h⟩ := cond_some h
              cases h
              refine ⟨d, [id], .arr e z (xs ++ ys), rfl, hs, (fun i hi => by simp at hi; subst hi; exact ⟨_, _, _, hid⟩), (fun i => by by_cases hi : i = d <;> by_cases hi2 : i = id <;> simp [put_sto, St.blk, nbeq, hi, hi2]), rfl, fun st' hle hd hev => ?_⟩
              obtain ⟨a1, a2⟩ := appended_le hle hap
              refine ⟨((st'.blk id .dead).blk d (.arr e z (xs ++ ys))).put (some d) (.ow d none), by simp only [aimp, hcal, hmap st' hev, hargs, htys, hd, he, a1, a2, hb, cond_false, hle _ _ hid, hcc, cond_true], rfl, fun i => by by_cases hi : i = d <;> by_cases hi2 : i = id <;> simp [put_sto, St.blk, nbeq, hi, hi2]⟩
            · cases h
          · cases h
      · cases h
    · cases h
theorem oone_load {ops : List Oper} {a : Oper} {t : Nat} {x : Operand} (hg : a.guard = none) (ho : a.op = .load t x) (st : St) : oone C F true ops a st = (aload C st t (st.eval x)).map fun v => st.put a.dst (dropcv v) := by
  simp only [oone, hg]
  unfold aoperK
  simp only [ho, escape, escs, List.flatMap_nil, apure]
  cases aload C st t (st.eval x) with
  | none => simp [aimp]
  | some v => simp
/-- how an operation that makes a block looks at the store -/
def Form (C : Ctx) (F : Nat → List U → Option U) (ops : List Oper) (a : Oper) (st s : St) : Prop :=
  ∃ (d' : Nat) (own : List Nat) (B : Blk), a.dst = some d' ∧ st.sto d' = none ∧ (∀ id, id ∈ own → ∃ e z xs, st.sto id = some (.arr e z xs)) ∧ (∀ i, s.sto i = if i = d' then some B else if i ∈ own then some .dead else st.sto i) ∧ s.env = (st.put (some d') (.ow d' none)).env ∧
    ∀ st' : St, (∀ i b, st.sto i = some b → st'.sto i = some b) → st'.sto d' = none → (∀ x ∈ a.op.operands, st'.eval x = st.eval x) → ∃ s', oone C F true ops a st' = some s' ∧ s'.env = (st'.put (some d') (.ow d' none)).env ∧ ∀ i, s'.sto i = if i = d' then some B else if i ∈ own then some .dead else st'.sto i
theorem swapMk {ops : List Oper} {a b : Oper} {st s1 s2 : St} (hgb : b.guard = none) (k1 : ∀ d, a.dst = some d → d ∉ slotsG ops b ∧ b.dst ≠ some d) (k2 : ∀ d, b.dst = some d → d ∉ slotsG ops a) (fa : Free st a.dst) (fb : Free st b.dst) (hfm : Form C F ops a st s1) {t n : Nat} {ps : Array (Nat × Operand)} (hob : b.op = .buildSlice t n ps)
    (h2 : oone C F true ops b s1 = some s2) : ∃ s1', oone C F true ops b st = some s1' ∧ oone C F true ops a s1' = some s2 := by
  obtain ⟨d', own, B, q1, q2, q3, q4, q5, q6⟩ := hfm
  -- what is built
  simp only [oone, hgb] at h2
  unfold aoperK at h2
  cases he : escape C true s1 b.op with
  | none => rw [he] at h2; cases h2
  | some s1b =>
  obtain ⟨rfl, he'⟩ := escape_dr he
  rw [he] at h2
  simp only [hob, apure] at h2
  cases hi : aimp C s1b s1b.eval (.buildSlice t n ps) b.dst with
  | none => rw [hi] at h2; simp at h2
  | some p =>
  obtain ⟨safe, s3⟩ := p
  rw [hi] at h2
  simp only at h2
  obtain ⟨rfl, h2⟩ := cond_some h2
  cases h2
  cases hd : b.dst with
  | none => rw [hd] at hi; simp [aimp] at hi
  | some d =>
  rw [hd] at hi
  simp only [aimp] at hi
  split at hi
  · rename_i e us g1 g2 g3
    obtain ⟨hcc, hi⟩ := cond_some hi
    cases hi
    have hev : ∀ x ∈ b.op.operands, st.eval x = s1b.eval x := ((fa.like (v := .ow d' none) (by rw [q1]; exact q5)).same (ops := ops) (o := b) (fun e he => (k1 e he).1)).symm.eval
    have hx : ∀ p ∈ ps.toList, st.eval p.2 = s1b.eval p.2 := fun p hp => hev p.2 (by rw [hob]; simp only [Op.operands]; simp; exact ⟨p.1, by simpa using hp⟩)
    have hx1 : (ps.toList.map fun p => st.eval p.2) = ps.toList.map fun p => s1b.eval p.2 := List.map_congr_left fun p hp => hx p hp
    have hx2 : (ps.toList.all fun p => decide (p.1 < n) && fitsT C e (st.eval p.2)) = ps.toList.all fun p => decide (p.1 < n) && fitsT C e (s1b.eval p.2) := by
      generalize ps.toList = l at hx
      induction l with
      | nil => rfl
      | cons p l ih => simp only [List.all_cons]; rw [hx p (by simp), ih (fun q hq => hx q (by simp [hq]))]
    have hdd : d ≠ d' ∧ d ∉ own ∧ st.sto d = none := by
      have := q4 d
      rw [g1] at this
      by_cases e1 : d = d'
      · rw [if_pos e1] at this; cases this
      · rw [if_neg e1] at this
        by_cases e2 : d ∈ own
        · rw [if_pos e2] at this; cases this
        · rw [if_neg e2] at this; exact ⟨e1, e2, this.symm⟩
    obtain ⟨hd1, hd2, hd3⟩ := hdd
    refine ⟨(st.blk d (.arr e false (fillU (List.replicate n (zeroU C 20 e)) ((ps.toList.map (·.1)).zip us)))).put (some d) (.ow d none), ?_, ?_⟩
    · simp only [oone, hgb]
      unfold aoperK
      rw [he' st hev]
      simp only [hob, apure, hd, aimp, hd3, g2, hx1, g3, hx2, hcc, cond_true]
    · have hlike : Like st ((st.blk d (.arr e false (fillU (List.replicate n (zeroU C 20 e)) ((ps.toList.map (·.1)).zip us)))).put (some d) (.ow d none)) b.dst := fb.like (v := .ow d none) (by rw [hd]; rfl)
      obtain ⟨s', z1, z2, z3⟩ := q6 ((st.blk d (.arr e false (fillU (List.replicate n (zeroU C 20 e)) ((ps.toList.map (·.1)).zip us)))).put (some d) (.ow d none)) (fun i b hb => by
        rw [put_sto]
        simp only [St.blk, nbeq]
        by_cases e1 : i = d
        · rw [e1, hd3] at hb; cases hb
        · simpa [e1] using hb) (by rw [put_sto]; simp [St.blk, nbeq, Ne.symm hd1, q2]) (fun x hx => by
        exact hlike.eval (ops := ops) (o := a) (fun e he => k2 e he) x hx)
      rw [z1]
      congr 1
      refine St.eq ?_ (funext fun i => ?_)
      · rw [z2]
        have e1 : ((s1b.blk d (.arr e false (fillU (List.replicate n (zeroU C 20 e)) ((ps.toList.map (·.1)).zip us)))).put (some d) (.ow d none)).env = ((st.put (some d') (.ow d' none)).put (some d) (.ow d none)).env := put_env q5
        rw [e1, put_swap (fun x hx e2 => by cases hx; cases e2; exact hd1 rfl) (.of rfl) (.of rfl)]
        exact put_env rfl
      · rw [z3, put_sto, put_sto]
        simp only [St.blk, nbeq]
        by_cases e1 : i = d
        · simp [e1, hd1, hd2]
        · simp only [e1, decide_false, cond_false]
          rw [q4]
  · cases hi
theorem abuild_form {st s : St} {t n : Nat} {ps : Array (Nat × Operand)} {d : Option Nat} {safe : Bool} (h : aimp C st st.eval (.buildSlice t n ps) d = some (safe, s)) :
    ∃ (d' : Nat) (B : Blk), d = some d' ∧ st.sto d' = none ∧ (∀ i, s.sto i = if i = d' then some B else st.sto i) ∧ s.env = (st.put (some d') (.ow d' none)).env ∧
      ∀ st' : St, st'.sto d' = none → (∀ x ∈ (Op.buildSlice t n ps).operands, st'.eval x = st.eval x) → ∃ s', aimp C st' st'.eval (.buildSlice t n ps) d = some (safe, s') ∧ s'.env = (st'.put (some d') (.ow d' none)).env ∧ ∀ i, s'.sto i = if i = d' then some B else st'.sto i := by
  cases d with
  | none => simp [aimp] at h
  | some d =>
    simp only [aimp] at h
    split at h
    · rename_i e us g1 g2 g3
      obtain ⟨hcc, h⟩ := cond_some h
      cases h
      refine ⟨d, .arr e false (fillU (List.replicate n (zeroU C 20 e)) ((ps.toList.map (·.1)).zip us)), rfl, g1, (fun i => by by_cases hi : i = d <;> simp [put_sto, St.blk, nbeq, hi]), rfl, fun st' hd hev => ?_⟩
      have hx : ∀ p ∈ ps.toList, st'.eval p.2 = st.eval p.2 := fun p hp => hev p.2 (by simp only [Op.operands]; simp; exact ⟨p.1, by simpa using hp⟩)
      have hx1 : (ps.toList.map fun p => st'.eval p.2) = ps.toList.map fun p => st.eval p.2 := List.map_congr_left fun p hp => hx p hp
      have hx2 : (ps.toList.all fun p => decide (p.1 < n) && fitsT C e (st'.eval p.2)) = ps.toList.all fun p => decide (p.1 < n) && fitsT C e (st.eval p.2) := by
        generalize ps.toList = l at hx
        induction l with
        | nil => rfl
        | cons p l ih => simp only [List.all_cons]; rw [hx p (by simp), ih (fun q hq => hx q (by simp [hq]))]
      exact ⟨(st'.blk d (.arr e false (fillU (List.replicate n (zeroU C 20 e)) ((ps.toList.map (·.1)).zip us)))).put (some d) (.ow d none), by simp only [aimp, hd, g2, hx1, g3, hx2, hcc, cond_true], rfl, fun i => by by_cases hi : i = d <;> simp [put_sto, St.blk, nbeq, hi]⟩
    · cases h
theorem swapD {ops : List Oper} {a b : Oper} {st s1 s2 : St} (hp : pairD C st ops a b = true) (fa : Free st a.dst) (fb : Free st b.dst)
    (h1 : oone C F true ops a st = some s1) (h2 : oone C F true ops b s1 = some s2) : ∃ s1', oone C F true ops b st = some s1' ∧ oone C F true ops a s1' = some s2 := by
  unfold pairD at hp
  simp only [Bool.and_eq_true, Option.isNone_iff_eq_none] at hp
  obtain ⟨⟨⟨hga, hgb⟩, hap⟩, hp⟩ := hp
  obtain ⟨k1, k2⟩ := apart_of hap
  -- a load, where what it reads is not touched
  have load : ∀ t x, a.op = .load t x → (∀ v, aload C st t (st.eval x) = some v → ∀ st' : St, (∀ i, st'.sto i = s2.sto i) → aload C st' t (st.eval x) = some v) → ∃ s1', oone C F true ops b st = some s1' ∧ oone C F true ops a s1' = some s2 := by
    intro t x hx hl
    rw [oone_load hga hx] at h1
    cases hv : aload C st t (st.eval x) with
    | none => rw [hv] at h1; cases h1
    | some v =>
      rw [hv] at h1
      cases h1
      obtain ⟨vb, b1, b2, b4⟩ := any_step hgb h2
      have e1 := b4 st (by rw [put_sto]) ((fa.like rfl).same (ops := ops) (fun e he => (k1 e he).1)).symm.eval
      refine ⟨_, e1, ?_⟩
      rw [oone_load hga hx]
      have hxe : (⟨(st.put b.dst vb).env, s2.sto⟩ : St).eval x = st.eval x := (Like.same (d := b.dst) (fb.like (st' := ⟨(st.put b.dst vb).env, s2.sto⟩) (v := vb) rfl) (ops := ops) (o := a) (fun e he => k2 e he)).eval x (by rw [hx]; simp [Op.operands])
      rw [hxe, hl v hv ⟨(st.put b.dst vb).env, s2.sto⟩ (fun _ => rfl)]
      simp only [Option.map_some]
      congr 1
      refine St.eq ?_ (by rw [put_sto])
      rw [b2, put_swap (fun d hd => (k1 d hd).2) (.of (isCv_dropcv _)) (.of b1)]
      exact put_env rfl
  have ptr : ∀ x v, ptrAt ops st x = some v → st.eval x = v := by
    intro x v h
    cases x with
    | tmp t =>
      simp only [ptrAt] at h
      obtain ⟨_, h⟩ := cond_some h
      cases h; rfl
    | _ => cases h
  have pstable : ∀ x v, ptrAt ops st x = some v → ∃ t, x = .tmp t ∧ stable ops t = true := by
    intro x v h
    cases x with
    | tmp t =>
      simp only [ptrAt] at h
      obtain ⟨hs, h⟩ := cond_some h
      exact ⟨t, rfl, hs⟩
    | _ => cases h
  split at hp
  · rename_i t x t2 y v hoa hob
    split at hp
    · rename_i i pi j pj ex ey
      simp only [Bool.not_eq_true', nbeq, decide_eq_false_iff_not] at hp
      refine load t x hoa (fun v0 hv st' hst => ?_)
      rw [ptr _ _ ex] at hv ⊢
      rw [aload_at (st := st)]
      · exact hv
      · -- what the store leaves alone
        rw [hst]
        have hs1 : s1.sto = st.sto := by
          rw [oone_load hga hoa] at h1
          cases hq : aload C st t (st.eval x) with
          | none => rw [hq] at h1; cases h1
          | some q => rw [hq] at h1; cases h1; rw [put_sto]
        have hey : s1.eval y = .pb j pj := by
          obtain ⟨vq, q1, q2⟩ := env_step h1
          have hsame := ((fa.like q1).same (ops := ops) (o := b) (fun e he => (k1 e he).1)).eval y (by rw [hob]; simp [Op.operands])
          rw [hsame, ptr _ _ ey]
        simp only [oone, hgb] at h2
        unfold aoperK at h2
        cases he : escape C true s1 b.op with
        | none => rw [he] at h2; cases h2
        | some s1b =>
          obtain ⟨rfl, _⟩ := escape_dr he
          rw [he] at h2
          simp only [hob, apure] at h2
          cases hi : aimp C s1b s1b.eval (.store t2 y v) b.dst with
          | none => rw [hi] at h2; simp at h2
          | some p =>
            obtain ⟨safe, s3⟩ := p
            rw [hi] at h2
            simp only at h2
            obtain ⟨rfl, h2⟩ := cond_some h2
            cases h2
            cases hd : b.dst with
            | some d => rw [hd] at hi; simp [aimp] at hi
            | none =>
              rw [hd] at hi
              simp only [aimp, Option.map_eq_some_iff, Prod.mk.injEq, true_and] at hi
              obtain ⟨s4, h4, rfl⟩ := hi
              rw [hey] at h4
              rw [astore_sto h4 i hp, hs1]
    · rename_i tt uu ex
      refine load t x hoa (fun v0 hv st' hst => ?_)
      rw [ptr _ _ ex] at hv ⊢
      rw [aload_rp (st := st)]
      exact hv
    · cases hp
  · rename_i t x c hoa hob
    simp only [Bool.and_eq_true] at hp
    obtain ⟨happ, hp⟩ := hp
    have hs1 : s1.sto = st.sto := by
      rw [oone_load hga hoa] at h1
      cases hq : aload C st t (st.eval x) with
      | none => rw [hq] at h1; cases h1
      | some q => rw [hq] at h1; cases h1; rw [put_sto]
    -- boxes stay
    have keep : ∀ i tt vs, st.sto i = some (.box tt vs) → s2.sto i = st.sto i := by
      cases happ2 : isAppend c with
      | true =>
        have happ := happ2
        intro i tt vs hi0
        simp only [oone, hgb] at h2
        unfold aoperK at h2
        cases he : escape C true s1 b.op with
        | none => rw [he] at h2; cases h2
        | some s1b =>
          obtain ⟨rfl, _⟩ := escape_dr he
          rw [he] at h2
          have hpn : apure C s1b s1b.eval (.call c) = none := by
            unfold isAppend at happ
            split at happ
            · rename_i hcal; simp [apure, hcal]
            · cases happ
          simp only [hob, hpn] at h2
          cases hi : aimp C s1b s1b.eval (.call c) b.dst with
          | none =>
            exfalso
            rw [hi] at h2
            have hcal : c.callee = .builtin .append := by
              unfold isAppend at happ
              split at happ
              · assumption
              · cases happ
            simp [acall, hcal] at h2
          | some p =>
            obtain ⟨safe, s3⟩ := p
            rw [hi] at h2
            simp only at h2
            obtain ⟨rfl, h2⟩ := cond_some h2
            cases h2
            obtain ⟨d', own, B, q1, q2, q3, q4, _⟩ := aappend_form happ hi
            rw [q4, if_neg, if_neg, hs1]
            · intro hm
              obtain ⟨e, z, xs, q⟩ := q3 i hm
              rw [hs1, hi0] at q; cases q
            · rintro rfl
              rw [hs1, hi0] at q2; cases q2
      | false =>
        rw [happ2, Bool.false_or] at happ
        intro i tt vs hi0
        simp only [oone, hgb] at h2
        unfold aoperK at h2
        cases he : escape C true s1 b.op with
        | none => rw [he] at h2; cases h2
        | some s1b =>
          obtain ⟨rfl, _⟩ := escape_dr he
          rw [he] at h2
          unfold ownCall at happ
          split at happ
          · rename_i g hcal
            split at happ
            · rename_i fi hfn
              have hpn : apure C s1b s1b.eval (.call c) = none := by simp [apure, hcal]
              have hin : aimp C s1b s1b.eval (.call c) b.dst = none := by
                cases b.dst <;> simp [aimp, hcal]
              simp only [hob, hpn, hin, acall, hcal, St.eval, drBad, Bool.true_and, Bool.not_true, cond_false] at h2
              cases hcf : callF C F true s1b g [] (c.args.toList.map s1b.eval) b.dst with
              | none => rw [hcf] at h2; simp at h2
              | some p =>
                obtain ⟨x, k⟩ := p
                rw [hcf] at h2
                simp only [Option.bind_eq_some_iff] at h2
                obtain ⟨r, hx, h2⟩ := h2
                obtain ⟨own, ow1, ow2, ow3⟩ := callF_own hfn happ hcf
                rw [ow2] at h2
                cases hret : retOf C (kills s1b own) fi b.dst r with
                | none => rw [hret] at h2; cases h2
                | some s3 =>
                  rw [hret] at h2
                  cases h2
                  obtain ⟨v, v1, v2, v3, v4⟩ := retOf_own happ hret
                  have hk : (kills s1b own).sto i = st.sto i := by
                    rw [kills_sto, hs1, if_neg]
                    intro hm
                    obtain ⟨e, z, xs, q⟩ := ow1 i hm
                    rw [hs1, hi0] at q; cases q
                  rw [v3 i tt vs (by rw [hk, hi0]), hk]
            · cases happ
          · cases happ
    split at hp
    · rename_i i pi ex
      refine load t x hoa (fun v0 hv st' hst => ?_)
      rw [ptr _ _ ex] at hv ⊢
      rw [aload_at (st := st)]
      · exact hv
      · rw [hst]
        cases hi0 : st.sto i with
        | none =>
          exfalso
          unfold aload at hv
          simp only [hi0] at hv
          cases hq : isPtr C t <;> rw [hq] at hv <;> cases hv
        | some bb =>
          cases bb with
          | box tt vs => rw [keep i tt vs hi0, hi0]
          | _ =>
            exfalso
            unfold aload at hv
            simp only [hi0] at hv
            cases hq : isPtr C t <;> rw [hq] at hv <;> cases hv
    · rename_i tt uu ex
      refine load t x hoa (fun v0 hv st' hst => ?_)
      rw [ptr _ _ ex] at hv ⊢
      rw [aload_rp (st := st)]
      exact hv
    · cases hp
  · rename_i c t n ps hoa hob
    have hcal : c.callee = .builtin .append := by
      unfold isAppend at hp
      split at hp
      · assumption
      · cases hp
    have hpn : ∀ st : St, apure C st st.eval (.call c) = none := fun st => by simp [apure, hcal]
    have oa : ∀ st s : St, oone C F true ops a st = some s ↔ aimp C st st.eval (.call c) a.dst = some (true, s) := by
      intro st s
      simp only [oone, hga]
      unfold aoperK
      simp only [hoa, escape, escs, List.flatMap_nil, hpn]
      cases hi : aimp C st st.eval (.call c) a.dst with
      | none => simp [acall, hcal]
      | some p => obtain ⟨safe, q⟩ := p; cases safe <;> simp
    obtain ⟨d', own, B, q1, q2, q3, q4, q5, q6⟩ := aappend_form hp ((oa st s1).1 h1)
    exact swapMk hgb k1 k2 fa fb ⟨d', own, B, q1, q2, q3, q4, q5, fun st' h hd hev => by
      obtain ⟨s', z1, z2⟩ := q6 st' h hd (fun x hx => hev x (by rw [hoa]; exact hx))
      exact ⟨s', (oa st' s').2 z1, z2⟩⟩ hob h2
  · rename_i t' n' ps' t n ps hoa hob
    have h1' := h1
    simp only [oone, hga] at h1'
    unfold aoperK at h1'
    cases he : escape C true st a.op with
    | none => rw [he] at h1'; cases h1'
    | some s1b =>
    obtain ⟨rfl, he'⟩ := escape_dr he
    rw [he] at h1'
    simp only [hoa, apure] at h1'
    cases hi : aimp C s1b s1b.eval (.buildSlice t' n' ps') a.dst with
    | none => rw [hi] at h1'; simp at h1'
    | some p =>
    obtain ⟨safe, s3⟩ := p
    rw [hi] at h1'
    simp only at h1'
    obtain ⟨rfl, h1'⟩ := cond_some h1'
    cases h1'
    obtain ⟨d', B, q1, q2, q4, q5, q6⟩ := abuild_form hi
    exact swapMk hgb k1 k2 fa fb ⟨d', [], B, q1, q2, (fun id hid => by cases hid), (fun i => by rw [q4]; by_cases e : i = d' <;> simp [e]), q5, fun st' h hd hev => by
      obtain ⟨s', z1, z2, z3⟩ := q6 st' hd (fun x hx => hev x (by rw [hoa]; exact hx))
      refine ⟨s', ?_, z2, fun i => by rw [z3]; by_cases e : i = d' <;> simp [e]⟩
      simp only [oone, hga]
      unfold aoperK
      rw [he' st' hev]
      simp only [hoa, apure, z1, cond_true]⟩ hob h2
  · cases hp
/-- what stays where it is while a region runs -/
def Steady (ops : List Oper) (st0 st : St) : Prop := ∀ t, stable ops t = true → look st.env t = look st0.env t ∧ isCv (look st0.env t) = false
theorem Steady.step {ops : List Oper} {st0 st s1 : St} {o : Oper} (h : Steady ops st0 st) (ho : o ∈ ops) (k : oone C F true ops o st = some s1) : Steady ops st0 s1 := by
  obtain ⟨v, h1, _⟩ := env_step k
  intro t ht
  obtain ⟨e1, e2⟩ := h t ht
  refine ⟨?_, e2⟩
  have := List.all_eq_true.1 ht o ho
  rw [h1]
  cases hd : o.dst with
  | none => exact e1
  | some d =>
    rw [hd] at this
    simp only [nbeq, Bool.not_eq_true', decide_eq_false_iff_not] at this
    simp only [St.put, look_setl]
    rw [if_neg (fun e => this e.symm), look_map _ rfl, e1]
    cases hx : look st0.env t <;> first | rfl | (rw [hx] at e2; cases e2)
theorem pairD_steady {ops : List Oper} {st0 st : St} (h : Steady ops st0 st) {a b : Oper} (k : pairD C st0 ops a b = true) : pairD C st ops a b = true := by
  have e : ∀ x, ptrAt ops st x = ptrAt ops st0 x := by
    intro x
    cases x with
    | tmp t =>
      simp only [ptrAt]
      cases hs : stable ops t with
      | false => rfl
      | true => rw [(h t hs).1]
    | _ => rfl
  unfold pairD at k ⊢
  simp only [e]
  exact k
/-- one that may be next is taken to the front -/
theorem bubble {R : Type} {ops : List Oper} {st0 : St} (ok : SlotOk ops) {K : St → Option R} {r : R} {i : Nat} {oi : Oper} (hi : ops[i]? = some oi) :
    ∀ {pre post : List Nat} {S : Nat → Prop} {st : St}, Steady ops st0 st → Topo ops S (pre ++ i :: post) → (∀ q o, S q → ops[q]? = some o → ∀ p ∈ before o, S p) → (∀ q ∈ before oi, S q) → (∀ p ∈ pre, ¬ S p) → ¬ S i → (pre ++ i :: post).Nodup → PairsOk C st0 ops (pre ++ i :: post) → Hung ops S st →
      aopsK C F true ops (opsAt ops (pre ++ i :: post)) st K = some r → ∃ s1, oone C F true ops oi st = some s1 ∧ aopsK C F true ops (opsAt ops (pre ++ post)) s1 K = some r
  | [], post, S, st, _, _, _, _, _, _, _, _, _, h => by
    rw [List.nil_append, opsAt_cons hi, aopsK_cons, Option.bind_eq_some_iff] at h
    exact h
  | p :: pre, post, S, st, hst, ht, hS, hb, hp, hni, hnd, hpo, hH, h => by
    obtain ⟨⟨op, t1, t2⟩, t3⟩ := ht
    rw [List.cons_append, opsAt_cons t1, aopsK_cons, Option.bind_eq_some_iff] at h
    obtain ⟨s1, h1, h2⟩ := h
    rw [List.cons_append] at hnd hpo
    obtain ⟨n1, n2⟩ := List.nodup_cons.1 hnd
    have hpi : p ≠ i := fun e => n1 (by simp [e])
    have hgd : ∀ j' w, op.guard = some (j', w) → S j' := fun j' w e => t2 _ (ok.guard op (List.mem_of_getElem? t1) _ _ e)
    have hpo' := List.pairwise_cons.1 hpo
    obtain ⟨s2, h3, h4⟩ := bubble ok hi (pre := pre) (post := post) (S := fun q => S q ∨ q = p) (st := s1) (hst.step (List.mem_of_getElem? t1) h1) t3
      (fun q o hq ho x hx => by
        rcases hq with hq | rfl
        · exact .inl (hS q o hq ho x hx)
        · rw [t1] at ho; cases ho; exact .inl (t2 x hx))
      (fun q hq => .inl (hb q hq))
      (fun q hq hs => by
        rcases hs with hs | rfl
        · exact hp q (by simp [hq]) hs
        · exact n1 (by simp [hq]))
      (fun hs => by
        rcases hs with hs | e
        · exact hni hs
        · exact hpi e.symm) n2 hpo'.2 ((hH.step hgd h1).mono fun q hq => .inl hq) h2
    have hpair := hpo'.1 i (by simp)
    unfold pairOk at hpair
    rw [t1, hi] at hpair
    rw [Bool.or_eq_true] at hpair
    rcases hpair with hpair | hpair
    · obtain ⟨s1', k1, k2⟩ := swapD (pairD_steady hst hpair) (by
          have := hH.free ok (hp p (by simp))
          unfold dstOf at this
          rwa [t1] at this) (by
          have := hH.free ok hni
          unfold dstOf at this
          rwa [hi] at this) h1 h3
      refine ⟨s1', k1, ?_⟩
      rw [List.cons_append, opsAt_cons t1, aopsK_cons, k2]
      exact h4
    rw [Bool.or_eq_true, Bool.or_eq_true, Bool.and_eq_true, Bool.and_eq_true, Bool.and_eq_true] at hpair
    have frr : ∀ {q : Nat} {o : Oper}, ops[q]? = some o → ¬ S q → Free st o.dst := by
      intro q o ho hq
      have := hH.free ok hq
      unfold dstOf at this
      rwa [ho] at this
    rcases hpair with (ha | ⟨⟨e1, e2⟩, e3⟩) | ⟨e1, e3⟩
    · exact (hp p (by simp) (ahead_done hS hb ha)).elim
    rotate_left
    · have hbg : oi.guard = none ∨ ∃ q, oi.guard = some q := by cases oi.guard <;> simp
      rcases hbg with hbg | ⟨⟨q1, q2⟩, hbg⟩
      · obtain ⟨s1', k1, k2⟩ := swapM e1 hbg e3 (frr t1 (hp p (by simp))) (frr hi hni) h1 h3
        refine ⟨s1', k1, ?_⟩
        rw [List.cons_append, opsAt_cons t1, aopsK_cons, k2]
        exact h4
      · have hrd : isRead C op = true := by
          unfold isMove at e1
          unfold isRead clsOf
          split at e1 <;> simp_all
        obtain ⟨s1', k1, k2⟩ := swap (by simp [hrd]) (by simp [hbg]) e3 (frr t1 (hp p (by simp))) (frr hi hni) (fun j' w j g1 g2 e => by
          have hS' := hgd j' w g1
          have hdi : dstOf ops i = some j := by unfold dstOf; rw [hi]; exact e
          exact hni (ok.uniq _ _ _ hdi g2 ▸ hS')) h1 h3
        refine ⟨s1', k1, ?_⟩
        rw [List.cons_append, opsAt_cons t1, aopsK_cons, k2]
        exact h4
    · have fr : ∀ {q : Nat} {o : Oper}, ops[q]? = some o → ¬ S q → Free st o.dst := by
        intro q o ho hq
        have := hH.free ok hq
        unfold dstOf at this
        rwa [ho] at this
      obtain ⟨s1', k1, k2⟩ := swap (by simpa using e1) (by simpa using e2) e3 (fr t1 (hp p (by simp))) (fr hi hni) (fun j' w j g1 g2 e => by
        have hS' := hgd j' w g1
        have hdi : dstOf ops i = some j := by unfold dstOf; rw [hi]; exact e
        exact hni (ok.uniq _ _ _ hdi g2 ▸ hS')) h1 h3
      refine ⟨s1', k1, ?_⟩
      rw [List.cons_append, opsAt_cons t1, aopsK_cons, k2]
      exact h4

theorem ready_iff {ops : Array Oper} {listed : Array Bool} {i : Nat} : i ∈ Region.ready .any ops listed ↔ i < ops.size ∧ listed.getD i true = false ∧ ∃ o, ops.toList[i]? = some o ∧ ∀ q ∈ before o, listed.getD q false = true := by
  unfold Region.ready
  simp only [List.mem_filter, List.mem_range, Bool.and_eq_true, Bool.not_eq_true']
  constructor
  · rintro ⟨h1, h2, h3⟩
    refine ⟨h1, h2, ?_⟩
    rw [Array.getElem?_toList]
    cases ho : ops[i]? with
    | none => rw [ho] at h3; cases h3
    | some o =>
      rw [ho] at h3
      refine ⟨o, rfl, fun q hq => ?_⟩
      simp only [before, List.mem_map, List.mem_filter] at hq
      obtain ⟨e, ⟨he, hb⟩, rfl⟩ := hq
      simp only [Option.map_some, Option.getD_some, Array.all_eq_true'] at h3
      have := h3 e (by simpa using he)
      simpa [hb] using this
  · rintro ⟨h1, h2, o, h3, h4⟩
    refine ⟨h1, h2, ?_⟩
    rw [Array.getElem?_toList] at h3
    rw [h3]
    simp only [Option.map_some, Option.getD_some, Array.all_eq_true']
    intro e he
    cases hb : Region.binds .any e with
    | false => simp
    | true => simpa using h4 e.on (by simp only [before, List.mem_map, List.mem_filter]; exact ⟨e, ⟨by simpa using he, hb⟩, rfl⟩)

structure Left (ops : Array Oper) (listed : Array Bool) (l : List Nat) : Prop where
  size : listed.size = ops.size
  mem : ∀ i, i < ops.size → (i ∈ l ↔ listed.getD i false = false)
  lt : ∀ i ∈ l, i < ops.size
  nodup : l.Nodup
  topo : Topo ops.toList (fun q => listed.getD q false = true) l
  down : ∀ q o, listed.getD q false = true → ops.toList[q]? = some o → ∀ p ∈ before o, listed.getD p false = true
theorem getD_set {listed : Array Bool} {i q : Nat} (hi : i < listed.size) : (listed.setIfInBounds i true).getD q false = true ↔ listed.getD q false = true ∨ q = i := by
  by_cases h : i = q
  · subst h; simp [hi]
  · have h' : ¬ q = i := fun e => h e.symm
    simp [Array.getD_eq_getD_getElem?, Array.getElem?_setIfInBounds, h, h']
theorem any_sound (ok : CtxOk P C) (zok : ZeroOk P C) (lok : LimOk P C) {f : Fr} {R : Type} {st0 : St} (hF : ∀ g us r, F g us = some r → Spec P C g us r) (hf : FrOk f) {ops : Array Oper} (sok : SlotOk ops.toList) {K : St → Option R} {r : R} {Q : Exit → Act → World → Prop} {ds : List Deferred} (hn : ∀ a w, Nx C f ds K r a w → Q .normal a w) :
    ∀ (n : Nat) {listed : Array Bool} {l : List Nat} {ι : Own} {st : St} {a : Act} {w : World}, l.length = n → a.defers = ds → Left ops listed l → Steady ops.toList st0 st → PairsOk C st0 ops.toList l → Hung ops.toList (fun q => listed.getD q false = true) st → Sim C f ι st a w → aopsK C F true ops.toList (opsAt ops.toList l) st K = some r → wpAny P .any ops Q n listed a w
  | 0, listed, l, ι, st, a, w, hl, e0, hL, hst, hP, hH, s, h => by
    obtain rfl : l = [] := List.length_eq_zero_iff.1 hl
    refine ⟨?_, hn _ _ ⟨ι, _, s.drop, h, e0⟩⟩
    rw [List.eq_nil_iff_forall_not_mem]
    intro i hi
    obtain ⟨h1, h2, _⟩ := ready_iff.1 hi
    have h3 : listed.getD i false = false := by
      have hlt : i < listed.size := by rw [hL.size]; exact h1
      simp only [Array.getD_eq_getD_getElem?, Array.getElem?_eq_getElem hlt, Option.getD_some] at h2 ⊢
      exact h2
    exact absurd ((hL.mem i h1).2 h3) (by simp)
  | n + 1, listed, l, ι, st, a, w, hl, e0, hL, hst, hP, hH, s, h => by
    have unl : ∀ i, i < ops.size → (listed.getD i true = false ↔ listed.getD i false = false) := by
      intro i hi
      have hlt : i < listed.size := by rw [hL.size]; exact hi
      simp only [Array.getD_eq_getD_getElem?, Array.getElem?_eq_getElem hlt, Option.getD_some]
    refine ⟨fun h0 => ?_, fun i hi => ?_⟩
    · exfalso
      cases l with
      | nil => cases hl
      | cons i l =>
        have hlt := hL.lt i (by simp)
        obtain ⟨⟨o, t1, t2⟩, _⟩ := hL.topo
        have : i ∈ Region.ready .any ops listed := ready_iff.2 ⟨hlt, (unl i hlt).2 ((hL.mem i hlt).1 (by simp)), o, t1, t2⟩
        rw [h0] at this
        cases this
    · obtain ⟨hlt, h2, o, ho, hb⟩ := ready_iff.1 hi
      have hun := (unl i hlt).1 h2
      obtain ⟨pre, post, rfl⟩ := List.append_of_mem ((hL.mem i hlt).2 hun)
      have hnS : ∀ p ∈ pre, ¬ listed.getD p false = true := by
        intro p hp hs
        have := (hL.mem p (hL.lt p (by simp [hp]))).1 (by simp [hp])
        rw [hs] at this
        cases this
      have hni : ¬ listed.getD i false = true := by rw [hun]; simp
      obtain ⟨s1, k1, k2⟩ := bubble sok ho hst hL.topo hL.down hb hnS hni hL.nodup hP hH h
      have hlt' : i < listed.size := by rw [hL.size]; exact hlt
      have hgd : ∀ j' w, o.guard = some (j', w) → listed.getD j' false = true := fun j' w e => hb _ (sok.guard o (List.mem_of_getElem? ho) _ _ e)
      have hL' : Left ops (listed.setIfInBounds i true) (pre ++ post) := by
        refine ⟨by simp [hL.size], fun q hq => ?_, fun q hq => hL.lt q (by simp at hq ⊢; rcases hq with h | h <;> simp [h]), ?_, ?_, ?_⟩
        · have h1 := hL.mem q hq
          have hnd := hL.nodup
          have e : ((listed.setIfInBounds i true).getD q false = false) ↔ (listed.getD q false = false ∧ q ≠ i) := by
            have := getD_set (listed := listed) (q := q) hlt'
            cases hA : (listed.setIfInBounds i true).getD q false <;> cases hB : listed.getD q false <;> simp [hA, hB] at this ⊢ <;> exact this
          rw [e, ← h1]
          simp only [List.mem_append, List.mem_cons]
          constructor
          · intro hm
            refine ⟨hm.imp id .inr, ?_⟩
            rintro rfl
            rw [List.nodup_append] at hnd
            obtain ⟨_, n2, n3⟩ := hnd
            rcases hm with hm | hm
            · exact n3 _ hm _ (by simp) rfl
            · exact (List.nodup_cons.1 n2).1 hm
          · rintro ⟨h | h | h, hne⟩
            · exact .inl h
            · exact (hne h).elim
            · exact .inr h
        · exact List.Nodup.sublist (by simp) hL.nodup
        · exact hL.topo.erase.mono fun q hq => (getD_set hlt').2 hq
        · intro q oq hq hoq p hp
          rw [getD_set hlt'] at hq ⊢
          rcases hq with hq | rfl
          · exact .inl (hL.down q oq hq hoq p hp)
          · rw [ho] at hoq; cases hoq; exact .inl (hb p hp)
      have hH' : Hung ops.toList (fun q => (listed.setIfInBounds i true).getD q false = true) s1 := (hH.step hgd k1).mono fun q hq => (getD_set hlt').2 (.inl hq)
      have hP' : PairsOk C st0 ops.toList (pre ++ post) := List.Pairwise.sublist (by simp) hP
      have hlen : (pre ++ post).length = n := by simp at hl ⊢; omega
      have next : ∀ a' w, Nx C f a.defers (fun st' => some st') s1 a' w → wpAny P .any ops Q n (listed.setIfInBounds i true) a' w := by
        rintro a' w ⟨ι', st', z, hz, e1⟩
        cases hz
        exact any_sound ok zok lok hF hf sok hn n hlen (e1.trans e0) hL' (hst.step (List.mem_of_getElem? ho) k1) hP' hH' z k2
      have ho' : ops[i]? = some o := by rw [← Array.getElem?_toList]; exact ho
      unfold wpOp
      rw [ho']
      simp only
      unfold oone at k1
      cases hg : o.guard with
      | none =>
        rw [hg] at k1
        have hw : Region.wanted o (yielded ops a.tmps) = true := by simp [Region.wanted, hg]
        rw [if_pos hw]
        exact .inl (aoperK_sound ok zok lok hF hf s k1 next)
      | some p =>
        obtain ⟨j', wt⟩ := p
        rw [hg] at k1
        simp only at k1
        cases hd : dstOf ops.toList j' with
        | none => rw [hd] at k1; cases k1
        | some j =>
          rw [hd] at k1
          simp only at k1
          obtain ⟨h1, h2⟩ := aoperG_sound ok zok hF hf s k1 next (Q := Q)
          by_cases hw : Region.wanted o (yielded ops a.tmps) = true
          · rw [if_pos hw]
            exact .inl (h1 ((wanted_of hg hd).1 hw))
          · rw [if_neg hw]
            exact h2 (fun e => hw ((wanted_of hg hd).2 e))

theorem Sim.drew {f : Fr} {ι : Own} {st : St} {a : Act} {w : World} (s : Sim C f ι st a w) : Sim C f ι st a { w with drawn := w.drawn + 1 } :=
  ⟨s.env, s.size, s.blk, s.inj, s.rng, ⟨s.keep.os, s.keep.tape, s.keep.output, s.keep.size, Nat.le_succ_of_le s.keep.drawn, s.keep.block⟩, s.oth, Marks.mono (w := w) (w' := { w with drawn := w.drawn + 1 }) (fun _ _ h _ => h) s.defers⟩
theorem draw_sound (ok : CtxOk P C) (zok : ZeroOk P C) (lok : LimOk P C) {f : Fr} {R : Type} {F : Nat → List U → Option U} (hF : ∀ g us r, F g us = some r → Spec P C g us r) (hf : FrOk f) {id : Nat} {ops : Array Oper} {K : St → Option R} {r : R} {Q : Exit → Act → World → Prop} {ds : List Deferred} (hn : ∀ a w, Nx C f ds K r a w → Q .normal a w)
    {ι : Own} {st : St} {a : Act} {w : World} (e0 : a.defers = ds) (s : Sim C f ι st a w) (hd : drawOk C st.drop ops.toList = true) (h : aopsK C F true ops.toList (canonOps C ops.toList) st.drop K = some r) : wpAny P .any ops Q ops.size (Array.replicate ops.size false) a { w with drawn := w.drawn + 1 } := by
  unfold drawOk at hd
  simp only [Bool.and_eq_true, nbeq, decide_eq_true_eq, List.all_eq_true, List.mem_range, List.any_eq_true, Array.length_toList] at hd
  obtain ⟨⟨⟨⟨⟨d1, d2⟩, d3⟩, d4⟩, d5⟩, d6⟩ := hd
  obtain ⟨t1, t2, t3⟩ := topo_of d4
  have g0 : ∀ q, (Array.replicate ops.size false).getD q false = false := by intro q; simp [Array.getD_eq_getD_getElem?, Array.getElem?_replicate]; split <;> rfl
  refine (any_sound ok zok lok hF hf (slotOk_of d6) hn ops.size d1 e0 ⟨by simp, ?_, d3, t2, ?_, ?_⟩ (st0 := st.drop) (fun t _ => ⟨rfl, by simp only [St.drop]; rw [look_map _ rfl]; exact isCv_dropcv _⟩) (pairsOk_of d5) ?_ s.drop.drew h)
  · intro i hi
    obtain ⟨x, hx, rfl⟩ := d2 i hi
    simp [hx, g0]
  · exact t1.mono fun q hq => by cases hq
  · intro q o hq; rw [g0] at hq; cases hq
  · intro t j wt v e
    simp only [St.drop] at e
    rw [look_map _ rfl] at e
    cases hx : look st.env t <;> rw [hx] at e <;> cases e

end Go.Ab
