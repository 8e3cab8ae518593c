/- What the functions of groups and grants yield: Of, and the laws. -/
import Derived.Test.YtegmhhojpngklaaCPf
namespace Go.Proofs.Ytegmhhojpngklaa
open Go.Ab
set_option linter.unusedVariables false
set_option linter.unusedSimpArgs false

def ofF (ps : List Gp) (l : List Gr) (v : List UInt8) : Int × Int :=
  bif !decide (pfault ps = (0, 0)) then pfault ps else bif !decide (gfault l = (0, 0)) then gfault l else bif !user v then (10, -3) else (0, 0)
def ofN (ps : List Gp) (l : List Gr) (v : List UInt8) : Int := bif decide (ofF ps l v = (0, 0)) then sum ps v l else 0
/-- groups that come in -/
structure GpsOk (u : U) (ps : List Gp) : Prop where
  is : Is pU u ps
  short : Short ps
  all : ∀ x ∈ ps, GpOk x
structure GrsOk (u : U) (l : List Gr) : Prop where
  is : IsN u l
  short : Short l
  all : ∀ x ∈ l, Sm x.1
theorem Good.rights {l : List Gr} (h : Good l) : ∀ x ∈ l, 0 ≤ x.2.2 ∧ x.2.2 ≤ 63 := fun x hx => by have := h.val x hx; unfold Val at this; omega
theorem s7 {u w : U} {ps : List Gp} {l : List Gr} (h : GpsOk u ps) (k : GrsOk w l) (v : List UInt8) (hv : Sm v) : Fi K 7 [u, w, .S v] = some (.ofL false [.I (ofN ps l v), fU (ofF ps l v)]) := by
  refine e7 _ _ _ ?_
  have e12 := s12 h.is h.short h.all
  have e13 := s13 k.is.is k.short k.all
  have ev := s22 v hv
  have d0 : ¬ ((10 : Int), (-3 : Int)) = (0, 0) := by decide
  by_cases hp : pfault ps = (0, 0)
  · by_cases hg : gfault l = (0, 0)
    · cases hu : user v
      · have hF : ofF ps l v = (10, -3) := by unfold ofF; rw [decide_eq_true hp, decide_eq_true hg, hu]; rfl
        have hN : ofN ps l v = 0 := by unfold ofN; rw [hF, decide_eq_false d0]; rfl
        simp only [e12, e13, Option.bind_some, fU0, fU1, toI_I, toS_S, toB_B, hp, hg, decide_true, Bool.and_self, cond_true, loK_some_brk, nth_zero, nth_succ, ev, hu, Bool.not_false, s23, get_ofL', hF, hN]
        rfl
      · have hF : ofF ps l v = (0, 0) := by unfold ofF; rw [decide_eq_true hp, decide_eq_true hg, hu]; rfl
        have hN : ofN ps l v = sum ps v l := by unfold ofN; rw [hF]; rfl
        have e24 := s24 h.is h.short h.all k.is.is k.short ((gfault_good l).1 hg).rights v hu
        simp only [e12, e13, Option.bind_some, fU0, fU1, toI_I, toS_S, toB_B, hp, hg, decide_true, Bool.and_self, cond_true, cond_false, loK_some_brk, nth_zero, nth_succ, ev, hu, Bool.not_true, Bool.and_false, e24, get_ofL', hF, hN]
        rfl
    · have h0 : (gfault l).1 ≠ 0 := fun e => hg (gfault_code l e)
      have hF : ofF ps l v = gfault l := by unfold ofF; rw [decide_eq_true hp, decide_eq_false hg]; rfl
      have hN : ofN ps l v = 0 := by unfold ofN; rw [hF, decide_eq_false hg]; rfl
      simp only [e12, e13, Option.bind_some, fU0, fU1, toI_I, toS_S, toB_B, hp, h0, decide_true, decide_false, Bool.and_self, Bool.false_and, cond_true, cond_false, loK_some_brk, nth_zero, nth_succ, Bool.not_false, get_ofL', hF, hN]
      rfl
  · have h0 : (pfault ps).1 ≠ 0 := fun e => hp (pfault_code ps e)
    have hF : ofF ps l v = pfault ps := by unfold ofF; rw [decide_eq_false hp]; rfl
    have hN : ofN ps l v = 0 := by unfold ofN; rw [hF, decide_eq_false hp]; rfl
    simp only [e12, e13, Option.bind_some, fU0, fU1, toI_I, toS_S, toB_B, h0, decide_true, decide_false, Bool.and_self, Bool.false_and, cond_true, cond_false, loK_some_brk, nth_zero, nth_succ, Bool.not_false, get_ofL', hF, hN]
    rfl

/-- what comes out of Set, comes into the next -/
theorem setF_code (l : List Gr) (g : Gr) (h : (setF l g).1 = 0) : setF l g = (0, 0) := by
  revert h
  unfold setF
  by_cases hf : gfault l = (0, 0)
  · rw [decide_eq_true hf]
    cases who g.1
    · intro h; exact absurd h (by decide : ¬ (10 : Int) = 0)
    · cases (decide (g.2.2 < 0) || decide ((63 : Int) < g.2.2))
      · cases decide ((60 : Int) < (setL l g).length)
        · intro _; rfl
        · intro h; exact absurd h (by decide : ¬ (2 : Int) = 0)
      · intro h; exact absurd h (by decide : ¬ (3 : Int) = 0)
  · rw [decide_eq_false hf]
    exact fun h => gfault_code l h
structure SetOk (l : List Gr) (g : Gr) : Prop where
  good : Good l
  who : who g.1 = true
  low : 0 ≤ g.2.2
  high : g.2.2 ≤ 63
  len : (setL l g).length ≤ 60
theorem setF_ok (l : List Gr) (g : Gr) : setF l g = (0, 0) ↔ SetOk l g := by
  unfold setF
  constructor
  · intro h
    by_cases hf : gfault l = (0, 0)
    · rw [decide_eq_true hf] at h
      cases hw : who g.1
      · rw [hw] at h; exact absurd (congrArg Prod.fst h) (by decide : ¬ (10 : Int) = 0)
      · rw [hw] at h
        cases hr : (decide (g.2.2 < 0) || decide ((63 : Int) < g.2.2))
        · rw [hr] at h
          by_cases h60 : (60 : Int) < (setL l g).length
          · rw [decide_eq_true h60] at h; exact absurd (congrArg Prod.fst h) (by decide : ¬ (2 : Int) = 0)
          · simp at hr
            exact ⟨(gfault_good l).1 hf, hw, hr.1, hr.2, by omega⟩
        · rw [hr] at h; exact absurd (congrArg Prod.fst h) (by decide : ¬ (3 : Int) = 0)
    · rw [decide_eq_false hf] at h; exact (hf h).elim
  · intro h
    have h1 : ¬ g.2.2 < 0 := by have := h.low; omega
    have h2 : ¬ (63 : Int) < g.2.2 := by have := h.high; omega
    have h3 : ¬ (60 : Int) < (setL l g).length := by have := h.len; omega
    rw [decide_eq_true ((gfault_good l).2 h.good), h.who, decide_eq_false h1, decide_eq_false h2, decide_eq_false h3]; rfl
theorem lo_sub (g : Gr) (l : List Gr) : ∀ x ∈ lo g l, x ∈ l ∧ aft g x = true := fun x hx => ⟨(List.mem_filter.1 hx).1, (List.mem_filter.1 hx).2⟩
theorem hi_sub (g : Gr) (l : List Gr) : ∀ x ∈ hi g l, x ∈ l ∧ aft x g = true := fun x hx => ⟨(List.mem_filter.1 hx).1, (List.mem_filter.1 hx).2⟩
theorem mid_mem {g x : Gr} (h : x ∈ mid g) : x = g ∧ g.2.2 ≠ 0 := by
  unfold mid at h
  by_cases h0 : g.2.2 = 0
  · rw [decide_eq_true h0] at h; cases h
  · rw [decide_eq_false h0] at h; exact ⟨List.mem_singleton.1 h, h0⟩
theorem setL_good {l : List Gr} {g : Gr} (h : SetOk l g) : Good (setL l g) := by
  refine ⟨h.len, fun x hx => ?_, (ord_pair _ none).2 ⟨fun y hy => (nomatch hy), ?_⟩⟩
  · simp only [setL, List.mem_append] at hx
    rcases hx with (hx | hx) | hx
    · exact h.good.val x (lo_sub g l x hx).1
    · obtain ⟨rfl, h0⟩ := mid_mem hx
      have := h.low; have := h.high
      exact ⟨h.who, by omega, by omega⟩
    · exact h.good.val x (hi_sub g l x hx).1
  · have hs := h.good.sorted
    unfold setL
    rw [List.pairwise_append, List.pairwise_append]
    refine ⟨⟨hs.filter _, ?_, fun a ha b hb => ?_⟩, hs.filter _, fun a ha b hb => ?_⟩
    · unfold mid; cases decide (g.2.2 = 0) <;> simp
    · obtain ⟨rfl, _⟩ := mid_mem hb
      exact (lo_sub b l a ha).2
    · have hb' := (hi_sub g l b hb).2
      rcases List.mem_append.1 ha with ha | ha
      · exact aft_trans hb' (lo_sub g l a ha).2
      · obtain ⟨rfl, _⟩ := mid_mem ha
        exact hb'
theorem lo_setL (l : List Gr) {g g' : Gr} (h : same g g') : lo g' (setL l g) = lo g l := by
  have h1 : (lo g l).filter (fun x => aft g' x) = lo g l := List.filter_eq_self.2 fun x hx => by rw [← aft_same h]; exact (lo_sub g l x hx).2
  have h2 : (mid g).filter (fun x => aft g' x) = [] := List.filter_eq_nil_iff.2 fun x hx => by obtain ⟨rfl, _⟩ := mid_mem hx; rw [← aft_same h, aft_irrefl]; simp
  have h3 : (hi g l).filter (fun x => aft g' x) = [] := List.filter_eq_nil_iff.2 fun x hx => by rw [← aft_same h, aft_asymm (hi_sub g l x hx).2]; simp
  show (setL l g).filter _ = _
  unfold setL
  rw [List.filter_append, List.filter_append, h1, h2, h3]; simp
theorem hi_setL (l : List Gr) {g g' : Gr} (h : same g g') : hi g' (setL l g) = hi g l := by
  have h1 : (lo g l).filter (fun x => aft x g') = [] := List.filter_eq_nil_iff.2 fun x hx => by rw [← aft_same' h, aft_asymm (lo_sub g l x hx).2]; simp
  have h2 : (mid g).filter (fun x => aft x g') = [] := List.filter_eq_nil_iff.2 fun x hx => by obtain ⟨rfl, _⟩ := mid_mem hx; rw [← aft_same' h, aft_irrefl]; simp
  have h3 : (hi g l).filter (fun x => aft x g') = hi g l := List.filter_eq_self.2 fun x hx => by rw [← aft_same' h]; exact (hi_sub g l x hx).2
  show (setL l g).filter _ = _
  unfold setL
  rw [List.filter_append, List.filter_append, h1, h2, h3]; simp
theorem setL_setL (l : List Gr) {g g' : Gr} (h : same g g') : setL (setL l g) g' = setL l g' := by
  have e1 : lo g l = lo g' l := by unfold lo; congr 1; funext x; exact aft_same h
  have e2 : hi g l = hi g' l := by unfold hi; congr 1; funext x; exact aft_same' h
  unfold setL
  show lo g' (setL l g) ++ mid g' ++ hi g' (setL l g) = _
  rw [lo_setL l h, hi_setL l h, e1, e2]
theorem setR_ok {l : List Gr} {g : Gr} (h : SetOk l g) : setR l g = setL l g := by unfold setR; rw [(setF_ok l g).2 h]; rfl
theorem grsOk_set {w : U} {l : List Gr} {g : Gr} (h : IsN w (setR l g)) (ha : ∀ x ∈ l, Sm x.1) (hg : Sm g.1) : GrsOk w (setR l g) := by
  by_cases hf : setF l g = (0, 0)
  · have ok := (setF_ok l g).1 hf
    refine ⟨h, ?_, ?_⟩
    · rw [setR_ok ok]; have := ok.len; unfold Short; omega
    · rw [setR_ok ok]
      intro x hx
      simp only [setL, List.mem_append] at hx
      rcases hx with (hx | hx) | hx
      · exact ha x (lo_sub g l x hx).1
      · obtain ⟨rfl, _⟩ := mid_mem hx; exact hg
      · exact ha x (hi_sub g l x hx).1
  · have : setR l g = [] := by unfold setR; rw [decide_eq_false hf]; rfl
    rw [this] at h ⊢
    exact ⟨h, by unfold Short; simp, by simp⟩

/-- the example -/
theorem s11 : Fi K 11 [] = some (.B true) := by
  refine e11 ?_
  have hp : GpsOk (.ofL false [.ofL false [.S [103], .ofL false [.S [117]]]]) [([103], false, [[117]])] := ⟨Is.mk' pU false [([103], false, [[117]])], by unfold Short; simp, fun x hx => by
    rw [List.mem_singleton.1 hx]
    exact ⟨by unfold Sm; simp, by unfold Short; simp, fun m hm => by rw [List.mem_singleton.1 hm]; unfold Sm; simp⟩⟩
  obtain ⟨w, w1, w2⟩ := s8 (u := .ofL false [.ofL false [.S [35, 103], .B false, .I 7]]) (l := [([35, 103], false, 7)]) ⟨Is.mk' gU false [([35, 103], false, 7)], fun h => by cases h⟩ (by unfold Short; simp) (fun x hx => by rw [List.mem_singleton.1 hx]; unfold Sm; simp) ([117], true, 2) (by unfold Sm; simp)
  have hF : setF [([35, 103], false, 7)] ([117], true, 2) = (0, 0) := by decide +kernel
  have hR : setR [([35, 103], false, 7)] ([117], true, 2) = [([35, 103], false, 7), ([117], true, 2)] := by decide +kernel
  have hw := grsOk_set w2 (fun x hx => by rw [List.mem_singleton.1 hx]; unfold Sm; simp) (by unfold Sm; simp)
  rw [hR] at hw
  have h7 := s7 hp hw [117] (by unfold Sm; simp)
  have h12 := s12 hp.is hp.short hp.all
  have h13 := s13 hw.is.is hw.short hw.all
  have hN : ofN [([103], false, [[117]])] [([35, 103], false, 7), ([117], true, 2)] [117] = 5 := by decide +kernel
  have hF7 : ofF [([103], false, [[117]])] [([35, 103], false, 7), ([117], true, 2)] [117] = (0, 0) := by decide +kernel
  have h1 : pfault [([103], false, [[117]])] = (0, 0) := by decide +kernel
  have h2 : gfault [([35, 103], false, 7), ([117], true, 2)] = (0, 0) := by decide +kernel
  rw [h1] at h12
  rw [h2] at h13
  rw [hN, hF7] at h7
  rw [hF] at w1
  have hl := hw.is.is.len
  rw [show (U.ofL false [.S [117], .B true, .I 2]) = gU ([117], true, 2) from rfl, w1]
  simp only [Option.bind_some, get_ofL', nth_zero, nth_succ, h7, fU0, toI_I, hl, h12, h13]
  rfl
end Go.Proofs.Ytegmhhojpngklaa
