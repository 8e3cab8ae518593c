/- With more fuel nothing is lost: what the evaluator yields with some fuel, it yields; so closed calls can be computed by the kernel. -/
import Derived.Test.YtnahhhaicalmcaaDoorAbLim
set_option linter.unusedVariables false
set_option linter.unusedSimpArgs false
namespace Go.Ab
open Go.RowKit
variable {C : Ctx} {P : Program}

theorem afun_lim {F : Nat → List U → Option U} {Fs : Nat → Nat → List U → Option U} (hF : ∀ g us r, F g us = some r → Ev (fun m => Fs m g us) r) {Y : Nat → List U → Option (List U)} {Ys : Nat → Nat → List U → Option (List U)} (hY : ∀ g us r, Y g us = some r → Ev (fun m => Ys m g us) r) {L : Nat → Code → JP → Option LO} {Ls : Nat → Nat → Code → JP → Option LO} (hL : ∀ bid c p o, L bid c p = some o → Ev (fun m => Ls m bid c p) o) {g : Nat} {us : List U} {r : U} (h : afun C F Y L g us = some r) : Ev (fun m => afun C (Fs m) (Ys m) (Ls m) g us) r := by
  unfold afun at h ⊢
  cases hfi : C.fn g with
  | none => rw [hfi] at h; cases h
  | some fi =>
    rw [hfi] at h
    simp only at h ⊢
    obtain ⟨hc, h⟩ := cond_some h
    simp only [hc, cond_true]
    exact acodeK_lim hF hY hL fi.body 0 U _ _ _ _ _ r (fun u h => ⟨0, fun _ _ => h⟩) (fun e st h => ⟨0, fun _ _ => h⟩) h
theorem axfun_lim {F : Nat → List U → Option U} {Fs : Nat → Nat → List U → Option U} (hF : ∀ g us r, F g us = some r → Ev (fun m => Fs m g us) r) {Y : Nat → List U → Option (List U)} {Ys : Nat → Nat → List U → Option (List U)} (hY : ∀ g us r, Y g us = some r → Ev (fun m => Ys m g us) r) {L : Nat → Code → JP → Option LO} {Ls : Nat → Nat → Code → JP → Option LO} (hL : ∀ bid c p o, L bid c p = some o → Ev (fun m => Ls m bid c p) o) {g : Nat} {us : List U} {r : U} (h : axfun C F Y L g us = some r) : Ev (fun m => axfun C (Fs m) (Ys m) (Ls m) g us) r := by
  unfold axfun at h ⊢
  cases hfi : C.xfn g with
  | none => rw [hfi] at h; cases h
  | some fi =>
    rw [hfi] at h
    simp only at h ⊢
    cases hxt : fi.xt with
    | none => rw [hxt] at h; cases h
    | some tt =>
      obtain ⟨ti, tu⟩ := tt
      rw [hxt] at h
      simp only at h ⊢
      obtain ⟨hc, h⟩ := cond_some h
      simp only [hc, cond_true]
      exact acodeK_lim hF hY hL fi.body 0 U _ _ _ _ _ r (fun u h => ⟨0, fun _ _ => h⟩) (fun e st h => ⟨0, fun _ _ => h⟩) h
theorem around_lim {F : Nat → List U → Option U} {Fs : Nat → Nat → List U → Option U} (hF : ∀ g us r, F g us = some r → Ev (fun m => Fs m g us) r) {Y : Nat → List U → Option (List U)} {Ys : Nat → Nat → List U → Option (List U)} (hY : ∀ g us r, Y g us = some r → Ev (fun m => Ys m g us) r) {L : Nat → Code → JP → Option LO} {Ls : Nat → Nat → Code → JP → Option LO} (hL : ∀ bid c p o, L bid c p = some o → Ev (fun m => Ls m bid c p) o) {g bid : Nat} {c : Code} {p : JP} {o : LO} (h : around C F Y L g bid c p = some o) : Ev (fun m => around C (Fs m) (Ys m) (Ls m) g bid c p) o := by
  unfold around at h ⊢
  cases hfi : C.fx g with
  | none => rw [hfi] at h; simp at h
  | some fi =>
    cases hl : C.loops g bid with
    | none => rw [hfi, hl] at h; simp at h
    | some tt =>
      obtain ⟨ti, tu⟩ := tt
      rw [hfi, hl] at h
      simp only at h ⊢
      have plain : isRange c = false → ∀ {x : Option LO}, acodeK C F Y L g fi c bid LO (unpack ti p) (fun u => some (.ret u)) (fun e st => match e with
            | .n => match pack C ti st with
              | some p' => L bid c p'
              | none => none
            | .x j => bif Nat.beq j bid then (pack C tu st).map .brk else none) = x → x = some o → Ev (fun m => acodeK C (Fs m) (Ys m) (Ls m) g fi c bid LO (unpack ti p) (fun u => some (.ret u)) (fun e st => match e with
            | .n => match pack C ti st with
              | some p' => Ls m bid c p'
              | none => none
            | .x j => bif Nat.beq j bid then (pack C tu st).map .brk else none)) o := by
        intro _ x hx hxo
        subst hxo
        refine acodeK_lim hF hY hL c bid LO _ _ _ _ _ o (fun u h => ⟨0, fun _ _ => h⟩) (fun e st h => ?_) hx
        cases e with
        | n =>
          simp only at h ⊢
          cases hp : pack C ti st with
          | none => rw [hp] at h; cases h
          | some p' => rw [hp] at h; exact hL _ _ _ _ h
        | x j => exact ⟨0, fun _ _ => h⟩
      cases c with
      | rangeFunc fo ps asg body =>
        simp only at h ⊢
        obtain ⟨us0, ls0⟩ := p
        cases us0 with
        | nil => simp at h
        | cons fu us =>
        cases ls0 with
        | nil => simp at h
        | cons items ls =>
        cases hit : C.iter (U.nth (fu :: us) 0).toI.toNat with
        | none => simp only [hit] at h; cases h
        | some ts =>
          simp only [hit] at h ⊢
          cases items with
          | nil => exact ⟨0, fun _ _ => h⟩
          | cons x xs =>
            simp only at h ⊢
            refine acodeK_lim hF hY hL asg bid LO _ _ _ _ _ o (fun u h => by cases h) (fun e st h => ?_) h
            cases e with
            | x j => cases h
            | n =>
              simp only at h ⊢
              refine acodeK_lim hF hY hL body bid LO _ _ _ _ _ o (fun u h => by cases h) (fun e st h => ?_) h
              cases e with
              | n =>
                simp only at h ⊢
                cases hp : pack C ti st with
                | none => rw [hp] at h; cases h
                | some p' => rw [hp] at h; exact hL _ _ _ _ h
              | x j => exact ⟨0, fun _ _ => h⟩
      | _ => exact plain rfl rfl h
theorem yfun_lim {F : Nat → List U → Option U} {Fs : Nat → Nat → List U → Option U} (hF : ∀ g us r, F g us = some r → Ev (fun m => Fs m g us) r) {Q : Nat → Code → JP → Option YR} {Qs : Nat → Nat → Code → JP → Option YR} (hQ : ∀ bid c p o, Q bid c p = some o → Ev (fun m => Qs m bid c p) o) {g : Nat} {us items : List U} (h : yfun C F Q g us = some items) : Ev (fun m => yfun C (Fs m) (Qs m) g us) items := by
  unfold yfun at h ⊢
  cases hfi : C.fn g with
  | none => rw [hfi] at h; simp at h
  | some fi =>
    cases hts : C.iter g with
    | none => rw [hfi, hts] at h; simp at h
    | some ts =>
      rw [hfi, hts] at h
      simp only at h ⊢
      obtain ⟨hc, h⟩ := cond_some h
      simp only [hc, cond_true]
      unfold yfK at h ⊢
      simp only [Option.bind_eq_some_iff] at h
      obtain ⟨r, hr, h⟩ := h
      refine Ev.bind (ycode_lim hF hQ fi.body 0 (yst0 fi us) (fun e _ => match e with | .n => some ⟨[], none⟩ | .x _ => none) (fun _ e _ => match e with | .n => some ⟨[], none⟩ | .x _ => none) r (fun e st r h => ⟨0, fun _ _ => h⟩) hr) (k := fun _ r => match r.out with | none => some r.items | some _ => none) ⟨0, fun _ _ => h⟩
theorem yround_lim {F : Nat → List U → Option U} {Fs : Nat → Nat → List U → Option U} (hF : ∀ g us r, F g us = some r → Ev (fun m => Fs m g us) r) {Q : Nat → Code → JP → Option YR} {Qs : Nat → Nat → Code → JP → Option YR} (hQ : ∀ bid c p o, Q bid c p = some o → Ev (fun m => Qs m bid c p) o) {g : Nat} {us : List U} {bid : Nat} {c : Code} {p : JP} {r : YR} (h : yround C F Q g us bid c p = some r) : Ev (fun m => yround C (Fs m) (Qs m) g us bid c p) r := by
  unfold yround at h ⊢
  cases hfi : C.fn g with
  | none => rw [hfi] at h; simp at h
  | some fi =>
    cases hts : C.iter g with
    | none => rw [hfi, hts] at h; simp at h
    | some ts =>
      cases hl : C.loops g bid with
      | none => rw [hfi, hts, hl] at h; simp at h
      | some tt =>
        obtain ⟨ti, tu⟩ := tt
        rw [hfi, hts, hl] at h
        simp only at h ⊢
        refine ycode_lim hF hQ c bid _ _ _ r (fun e st r h => ?_) h
        cases e with
        | n =>
          simp only at h ⊢
          cases hp : pack C ti st with
          | none => rw [hp] at h; cases h
          | some p' => rw [hp] at h; exact hQ _ _ _ _ h
        | x j => exact ⟨0, fun _ _ => h⟩
/-- the given functions ask the evaluator, and keep their answers when it answers more -/
def PrimMono (C : Ctx) : Prop := ∀ g h, C.prim g = some h → ∀ (F F' : Nat → List U → Option U), (∀ g us r, F g us = some r → F' g us = some r) → ∀ us r, h F us = some r → h F' us = some r
theorem Ev.now {α : Type} {x : Option α} {r : α} (h : Ev (fun _ => x) r) : x = some r := by
  obtain ⟨n, h⟩ := h
  exact h n (Nat.le_refl _)
theorem Ev.all {α : Type} {x : Option α} {r : α} (h : x = some r) : Ev (fun _ => x) r := ⟨0, fun _ _ => h⟩
theorem E_mono (pm : PrimMono C) : ∀ n, (∀ g us r, E C n g us = some r → E C (n + 1) g us = some r) ∧ (∀ g us r, YE C n g us = some r → YE C (n + 1) g us = some r) ∧ (∀ g bid c p o, LL C n g bid c p = some o → LL C (n + 1) g bid c p = some o) ∧ (∀ g us bid c p o, YL C n g us bid c p = some o → YL C (n + 1) g us bid c p = some o)
  | 0 => ⟨fun _ _ _ h => by simp [E] at h, fun _ _ _ h => by simp [YE] at h, fun _ _ _ _ _ h => by simp [LL] at h, fun _ _ _ _ _ _ h => by simp [YL] at h⟩
  | n + 1 => by
    obtain ⟨i1, i2, i3, i4⟩ := E_mono pm n
    refine ⟨fun g us r h => ?_, fun g us r h => ?_, fun g bid c p o h => ?_, fun g us bid c p o h => ?_⟩
    · rw [E] at h ⊢
      cases hp : C.prim g with
      | some q =>
        rw [hp] at h
        exact pm g q hp _ _ i1 us r h
      | none =>
        rw [hp] at h
        simp only at h ⊢
        cases hf : C.fn g with
        | some fi =>
          rw [hf] at h
          exact (afun_lim (Fs := fun _ => E C (n + 1)) (Ys := fun _ => YE C (n + 1)) (Ls := fun _ => LL C (n + 1) g) (fun g us r h => Ev.all (i1 g us r h)) (fun g us r h => Ev.all (i2 g us r h)) (fun bid c p o h => Ev.all (i3 g bid c p o h)) h).now
        | none =>
          rw [hf] at h
          exact (axfun_lim (Fs := fun _ => E C (n + 1)) (Ys := fun _ => YE C (n + 1)) (Ls := fun _ => LL C (n + 1) g) (fun g us r h => Ev.all (i1 g us r h)) (fun g us r h => Ev.all (i2 g us r h)) (fun bid c p o h => Ev.all (i3 g bid c p o h)) h).now
    · rw [YE] at h ⊢
      cases hp : C.prim g with
      | some q => rw [hp] at h; cases h
      | none =>
        rw [hp] at h
        exact (yfun_lim (Fs := fun _ => E C (n + 1)) (Qs := fun _ bid c p => YL C (n + 1) g us bid c p) (fun g us r h => Ev.all (i1 g us r h)) (fun bid c p o h => Ev.all (i4 g us bid c p o h)) h).now
    · rw [LL] at h ⊢
      exact (around_lim (Fs := fun _ => E C (n + 1)) (Ys := fun _ => YE C (n + 1)) (Ls := fun _ => LL C (n + 1) g) (fun g us r h => Ev.all (i1 g us r h)) (fun g us r h => Ev.all (i2 g us r h)) (fun bid c p o h => Ev.all (i3 g bid c p o h)) h).now
    · rw [YL] at h ⊢
      exact (yround_lim (Fs := fun _ => E C (n + 1)) (Qs := fun _ bid c p => YL C (n + 1) g us bid c p) (fun g us r h => Ev.all (i1 g us r h)) (fun bid c p o h => Ev.all (i4 g us bid c p o h)) h).now
theorem E_up (pm : PrimMono C) {n g : Nat} {us : List U} {r : U} (h : E C n g us = some r) : ∀ k, E C (n + k) g us = some r
  | 0 => h
  | k + 1 => (E_mono pm (n + k)).1 _ _ _ (E_up pm h k)
/-- a closed call, computed -/
theorem Fi_eval (pm : PrimMono C) {n g : Nat} {us : List U} {r : U} (h : E C n g us = some r) : Fi C g us = some r :=
  lim_some.2 ⟨n, fun m hm => by
    have := E_up pm h (m - n)
    rwa [show n + (m - n) = m by omega] at this⟩
end Go.Ab
