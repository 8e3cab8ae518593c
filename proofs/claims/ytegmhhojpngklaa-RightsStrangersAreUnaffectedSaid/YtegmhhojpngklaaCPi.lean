/- The law of the reference. -/
import Derived.Test.YtegmhhojpngklaaCPh
namespace Go.Proofs.Ytegmhhojpngklaa
open Go.Ab
set_option linter.unusedVariables false
set_option linter.unusedSimpArgs false
set_option maxHeartbeats 4000000

theorem p3 {u w : U} {ps : List Gp} {l : List Gr} (h : GpsOk u ps) (k : GrsOk w l) (v : List UInt8) (hv : Sm v) (g : Gr) (hg : Sm g.1) : Fi K 3 [u, w, .S v, gU g] = some (.B true) := by
  refine e3 _ _ _ _ ?_
  obtain ⟨a, e8, a2⟩ := s8 k.is k.short k.all g hg
  have e7 := s7 h k v hv
  have e9 := s9 h.is h.short h.all
  have e12 := s12 h.is h.short h.all
  have e10 := s10 k.is.is k.short k.all
  have e13 := s13 k.is.is k.short k.all
  have e14 := s14 v hv
  have e17 := s17 g.1 hg
  have d10 : ¬ (10 : Int) = 0 := by decide
  have d3 : ¬ (3 : Int) = 0 := by decide
  have d2 : ¬ (2 : Int) = 0 := by decide
  have nl : Is gU U.nil [] := Is.nil _
  have e20 := s20 nl nl (by simp)
  have nil : setF l g ≠ (0, 0) → Is gU a [] := fun hne => by
    have := a2.is
    unfold setR at this
    rw [decide_eq_false hne] at this
    exact this
  by_cases hg0 : gfault l = (0, 0)
  · by_cases hp : pfault ps = (0, 0)
    · cases hu : user v
      · have _ := hu
        have hF : ofF ps l v = (10, -3) := by unfold ofF; rw [decide_eq_true hp, decide_eq_true hg0, hu]; rfl
        have hN : ofN ps l v = 0 := by unfold ofN; rw [hF]; rfl
        rw [hF, hN] at e7
        cases hw : who g.1
        · have hs : setF l g = (10, -3) := by unfold setF; rw [decide_eq_true hg0, hw]; rfl
          have e20' := s20 (nil (by rw [hs]; decide)) nl (by simp)
          rw [hs] at e8
          simp only [e7, e8, e9, e10, e12, e13, e14, e17, s11, s15, s18, Option.bind_some, toB_B, toI_I, toS_S, Bool.not_true, Bool.not_false, Bool.true_or, Bool.or_true, Bool.or_false, Bool.false_or, Bool.or_self, Bool.and_self, Bool.and_true, Bool.true_and, Bool.and_false, Bool.false_and, cond_true, cond_false, decide_true, decide_false, fU0, fU1, gU0, gU1, gU2, gU_eta, get_ofL', nth_zero, nth_succ, loK_some_brk, loK_some_ret, d10, d3, d2, hp, hg0, hu, hw, e20']
        · by_cases r1 : g.2.2 < 0
          · have r1' : ¬ (0 : Int) ≤ g.2.2 := by omega
            have hs : setF l g = (3, -3) := by unfold setF; rw [decide_eq_true hg0, hw, decide_eq_true r1]; rfl
            have e20' := s20 (nil (by rw [hs]; decide)) nl (by simp)
            rw [hs] at e8
            simp only [e7, e8, e9, e10, e12, e13, e14, e17, s11, s15, s18, Option.bind_some, toB_B, toI_I, toS_S, Bool.not_true, Bool.not_false, Bool.true_or, Bool.or_true, Bool.or_false, Bool.false_or, Bool.or_self, Bool.and_self, Bool.and_true, Bool.true_and, Bool.and_false, Bool.false_and, cond_true, cond_false, decide_true, decide_false, fU0, fU1, gU0, gU1, gU2, gU_eta, get_ofL', nth_zero, nth_succ, loK_some_brk, loK_some_ret, d10, d3, d2, hp, hg0, hu, hw, r1', e20']
          · have r1' : (0 : Int) ≤ g.2.2 := by omega
            by_cases r2 : (63 : Int) < g.2.2
            · have r2' : ¬ g.2.2 ≤ (63 : Int) := by omega
              have hs : setF l g = (3, -3) := by unfold setF; rw [decide_eq_true hg0, hw, decide_eq_true r2, Bool.or_true]; rfl
              have e20' := s20 (nil (by rw [hs]; decide)) nl (by simp)
              rw [hs] at e8
              simp only [e7, e8, e9, e10, e12, e13, e14, e17, s11, s15, s18, Option.bind_some, toB_B, toI_I, toS_S, Bool.not_true, Bool.not_false, Bool.true_or, Bool.or_true, Bool.or_false, Bool.false_or, Bool.or_self, Bool.and_self, Bool.and_true, Bool.true_and, Bool.and_false, Bool.false_and, cond_true, cond_false, decide_true, decide_false, fU0, fU1, gU0, gU1, gU2, gU_eta, get_ofL', nth_zero, nth_succ, loK_some_brk, loK_some_ret, d10, d3, d2, hp, hg0, hu, hw, r1', r2', e20']
            · have r2' : g.2.2 ≤ (63 : Int) := by omega
              obtain ⟨b, e19⟩ := s19 k.is.is ((gfault_good l).1 hg0).len g
              rw [grl_set g ((gfault_good l).1 hg0).sorted] at e19
              by_cases h60 : (60 : Int) < (setL l g).length
              · have hs : setF l g = (2, -2) := by unfold setF; rw [decide_eq_true hg0, hw, decide_eq_false r1, decide_eq_false r2, decide_eq_true h60]; rfl
                have e20' := s20 (nil (by rw [hs]; decide)) nl (by simp)
                rw [hs] at e8
                simp only [e7, e8, e9, e10, e12, e13, e14, e17, e19, s11, s15, s18, Option.bind_some, toB_B, toI_I, toS_S, Bool.not_true, Bool.not_false, Bool.true_or, Bool.or_true, Bool.or_false, Bool.false_or, Bool.or_self, Bool.and_self, Bool.and_true, Bool.true_and, Bool.and_false, Bool.false_and, cond_true, cond_false, decide_true, decide_false, fU0, fU1, gU0, gU1, gU2, gU_eta, get_ofL', nth_zero, nth_succ, loK_some_brk, loK_some_ret, d10, d3, d2, hp, hg0, hu, hw, r1', r2', len_ofL', List.length_map, h60, e20']
              · have hs : setF l g = (0, 0) := by unfold setF; rw [decide_eq_true hg0, hw, decide_eq_false r1, decide_eq_false r2, decide_eq_false h60]; rfl
                rw [setR_ok ((setF_ok l g).1 hs)] at a2
                have e20' := s20 a2.is (Is.mk' gU b (setL l g)) ((setF_ok l g).1 hs).len
                rw [hs] at e8
                simp only [e7, e8, e9, e10, e12, e13, e14, e17, e19, s11, s15, s18, Option.bind_some, toB_B, toI_I, toS_S, Bool.not_true, Bool.not_false, Bool.true_or, Bool.or_true, Bool.or_false, Bool.false_or, Bool.or_self, Bool.and_self, Bool.and_true, Bool.true_and, Bool.and_false, Bool.false_and, cond_true, cond_false, decide_true, decide_false, fU0, fU1, gU0, gU1, gU2, gU_eta, get_ofL', nth_zero, nth_succ, loK_some_brk, loK_some_ret, d10, d3, d2, hp, hg0, hu, hw, r1', r2', len_ofL', List.length_map, h60, e20']
      · have _ := hu
        have hF : ofF ps l v = (0, 0) := by unfold ofF; rw [decide_eq_true hp, decide_eq_true hg0, hu]; rfl
        have hN : ofN ps l v = sum ps v l := by unfold ofN; rw [hF]; rfl
        rw [hF, hN] at e7
        have e16 := s16 h.is h.short h.all k.is.is k.short ((gfault_good l).1 hg0).rights v
        cases hw : who g.1
        · have hs : setF l g = (10, -3) := by unfold setF; rw [decide_eq_true hg0, hw]; rfl
          have e20' := s20 (nil (by rw [hs]; decide)) nl (by simp)
          rw [hs] at e8
          simp only [e7, e8, e9, e10, e12, e13, e14, e16, e17, s11, s15, s18, Option.bind_some, toB_B, toI_I, toS_S, Bool.not_true, Bool.not_false, Bool.true_or, Bool.or_true, Bool.or_false, Bool.false_or, Bool.or_self, Bool.and_self, Bool.and_true, Bool.true_and, Bool.and_false, Bool.false_and, cond_true, cond_false, decide_true, decide_false, fU0, fU1, gU0, gU1, gU2, gU_eta, get_ofL', nth_zero, nth_succ, loK_some_brk, loK_some_ret, d10, d3, d2, hp, hg0, hu, hw, e20']
        · by_cases r1 : g.2.2 < 0
          · have r1' : ¬ (0 : Int) ≤ g.2.2 := by omega
            have hs : setF l g = (3, -3) := by unfold setF; rw [decide_eq_true hg0, hw, decide_eq_true r1]; rfl
            have e20' := s20 (nil (by rw [hs]; decide)) nl (by simp)
            rw [hs] at e8
            simp only [e7, e8, e9, e10, e12, e13, e14, e16, e17, s11, s15, s18, Option.bind_some, toB_B, toI_I, toS_S, Bool.not_true, Bool.not_false, Bool.true_or, Bool.or_true, Bool.or_false, Bool.false_or, Bool.or_self, Bool.and_self, Bool.and_true, Bool.true_and, Bool.and_false, Bool.false_and, cond_true, cond_false, decide_true, decide_false, fU0, fU1, gU0, gU1, gU2, gU_eta, get_ofL', nth_zero, nth_succ, loK_some_brk, loK_some_ret, d10, d3, d2, hp, hg0, hu, hw, r1', e20']
          · have r1' : (0 : Int) ≤ g.2.2 := by omega
            by_cases r2 : (63 : Int) < g.2.2
            · have r2' : ¬ g.2.2 ≤ (63 : Int) := by omega
              have hs : setF l g = (3, -3) := by unfold setF; rw [decide_eq_true hg0, hw, decide_eq_true r2, Bool.or_true]; rfl
              have e20' := s20 (nil (by rw [hs]; decide)) nl (by simp)
              rw [hs] at e8
              simp only [e7, e8, e9, e10, e12, e13, e14, e16, e17, s11, s15, s18, Option.bind_some, toB_B, toI_I, toS_S, Bool.not_true, Bool.not_false, Bool.true_or, Bool.or_true, Bool.or_false, Bool.false_or, Bool.or_self, Bool.and_self, Bool.and_true, Bool.true_and, Bool.and_false, Bool.false_and, cond_true, cond_false, decide_true, decide_false, fU0, fU1, gU0, gU1, gU2, gU_eta, get_ofL', nth_zero, nth_succ, loK_some_brk, loK_some_ret, d10, d3, d2, hp, hg0, hu, hw, r1', r2', e20']
            · have r2' : g.2.2 ≤ (63 : Int) := by omega
              obtain ⟨b, e19⟩ := s19 k.is.is ((gfault_good l).1 hg0).len g
              rw [grl_set g ((gfault_good l).1 hg0).sorted] at e19
              by_cases h60 : (60 : Int) < (setL l g).length
              · have hs : setF l g = (2, -2) := by unfold setF; rw [decide_eq_true hg0, hw, decide_eq_false r1, decide_eq_false r2, decide_eq_true h60]; rfl
                have e20' := s20 (nil (by rw [hs]; decide)) nl (by simp)
                rw [hs] at e8
                simp only [e7, e8, e9, e10, e12, e13, e14, e16, e17, e19, s11, s15, s18, Option.bind_some, toB_B, toI_I, toS_S, Bool.not_true, Bool.not_false, Bool.true_or, Bool.or_true, Bool.or_false, Bool.false_or, Bool.or_self, Bool.and_self, Bool.and_true, Bool.true_and, Bool.and_false, Bool.false_and, cond_true, cond_false, decide_true, decide_false, fU0, fU1, gU0, gU1, gU2, gU_eta, get_ofL', nth_zero, nth_succ, loK_some_brk, loK_some_ret, d10, d3, d2, hp, hg0, hu, hw, r1', r2', len_ofL', List.length_map, h60, e20']
              · have hs : setF l g = (0, 0) := by unfold setF; rw [decide_eq_true hg0, hw, decide_eq_false r1, decide_eq_false r2, decide_eq_false h60]; rfl
                rw [setR_ok ((setF_ok l g).1 hs)] at a2
                have e20' := s20 a2.is (Is.mk' gU b (setL l g)) ((setF_ok l g).1 hs).len
                rw [hs] at e8
                simp only [e7, e8, e9, e10, e12, e13, e14, e16, e17, e19, s11, s15, s18, Option.bind_some, toB_B, toI_I, toS_S, Bool.not_true, Bool.not_false, Bool.true_or, Bool.or_true, Bool.or_false, Bool.false_or, Bool.or_self, Bool.and_self, Bool.and_true, Bool.true_and, Bool.and_false, Bool.false_and, cond_true, cond_false, decide_true, decide_false, fU0, fU1, gU0, gU1, gU2, gU_eta, get_ofL', nth_zero, nth_succ, loK_some_brk, loK_some_ret, d10, d3, d2, hp, hg0, hu, hw, r1', r2', len_ofL', List.length_map, h60, e20']
    · have hp1 : (pfault ps).1 ≠ 0 := fun e => hp (pfault_code ps e)
      have hF : ofF ps l v = pfault ps := by unfold ofF; rw [decide_eq_false hp]; rfl
      have hN : ofN ps l v = 0 := by unfold ofN; rw [hF, decide_eq_false hp]; rfl
      rw [hF, hN] at e7
      cases hw : who g.1
      · have hs : setF l g = (10, -3) := by unfold setF; rw [decide_eq_true hg0, hw]; rfl
        have e20' := s20 (nil (by rw [hs]; decide)) nl (by simp)
        rw [hs] at e8
        simp only [e7, e8, e9, e10, e12, e13, e14, e17, s11, s15, s18, Option.bind_some, toB_B, toI_I, toS_S, Bool.not_true, Bool.not_false, Bool.true_or, Bool.or_true, Bool.or_false, Bool.false_or, Bool.or_self, Bool.and_self, Bool.and_true, Bool.true_and, Bool.and_false, Bool.false_and, cond_true, cond_false, decide_true, decide_false, fU0, fU1, gU0, gU1, gU2, gU_eta, get_ofL', nth_zero, nth_succ, loK_some_brk, loK_some_ret, d10, d3, d2, hp1, hg0, hw, e20']
      · by_cases r1 : g.2.2 < 0
        · have r1' : ¬ (0 : Int) ≤ g.2.2 := by omega
          have hs : setF l g = (3, -3) := by unfold setF; rw [decide_eq_true hg0, hw, decide_eq_true r1]; rfl
          have e20' := s20 (nil (by rw [hs]; decide)) nl (by simp)
          rw [hs] at e8
          simp only [e7, e8, e9, e10, e12, e13, e14, e17, s11, s15, s18, Option.bind_some, toB_B, toI_I, toS_S, Bool.not_true, Bool.not_false, Bool.true_or, Bool.or_true, Bool.or_false, Bool.false_or, Bool.or_self, Bool.and_self, Bool.and_true, Bool.true_and, Bool.and_false, Bool.false_and, cond_true, cond_false, decide_true, decide_false, fU0, fU1, gU0, gU1, gU2, gU_eta, get_ofL', nth_zero, nth_succ, loK_some_brk, loK_some_ret, d10, d3, d2, hp1, hg0, hw, r1', e20']
        · have r1' : (0 : Int) ≤ g.2.2 := by omega
          by_cases r2 : (63 : Int) < g.2.2
          · have r2' : ¬ g.2.2 ≤ (63 : Int) := by omega
            have hs : setF l g = (3, -3) := by unfold setF; rw [decide_eq_true hg0, hw, decide_eq_true r2, Bool.or_true]; rfl
            have e20' := s20 (nil (by rw [hs]; decide)) nl (by simp)
            rw [hs] at e8
            simp only [e7, e8, e9, e10, e12, e13, e14, e17, s11, s15, s18, Option.bind_some, toB_B, toI_I, toS_S, Bool.not_true, Bool.not_false, Bool.true_or, Bool.or_true, Bool.or_false, Bool.false_or, Bool.or_self, Bool.and_self, Bool.and_true, Bool.true_and, Bool.and_false, Bool.false_and, cond_true, cond_false, decide_true, decide_false, fU0, fU1, gU0, gU1, gU2, gU_eta, get_ofL', nth_zero, nth_succ, loK_some_brk, loK_some_ret, d10, d3, d2, hp1, hg0, hw, r1', r2', e20']
          · have r2' : g.2.2 ≤ (63 : Int) := by omega
            obtain ⟨b, e19⟩ := s19 k.is.is ((gfault_good l).1 hg0).len g
            rw [grl_set g ((gfault_good l).1 hg0).sorted] at e19
            by_cases h60 : (60 : Int) < (setL l g).length
            · have hs : setF l g = (2, -2) := by unfold setF; rw [decide_eq_true hg0, hw, decide_eq_false r1, decide_eq_false r2, decide_eq_true h60]; rfl
              have e20' := s20 (nil (by rw [hs]; decide)) nl (by simp)
              rw [hs] at e8
              simp only [e7, e8, e9, e10, e12, e13, e14, e17, e19, s11, s15, s18, Option.bind_some, toB_B, toI_I, toS_S, Bool.not_true, Bool.not_false, Bool.true_or, Bool.or_true, Bool.or_false, Bool.false_or, Bool.or_self, Bool.and_self, Bool.and_true, Bool.true_and, Bool.and_false, Bool.false_and, cond_true, cond_false, decide_true, decide_false, fU0, fU1, gU0, gU1, gU2, gU_eta, get_ofL', nth_zero, nth_succ, loK_some_brk, loK_some_ret, d10, d3, d2, hp1, hg0, hw, r1', r2', len_ofL', List.length_map, h60, e20']
            · have hs : setF l g = (0, 0) := by unfold setF; rw [decide_eq_true hg0, hw, decide_eq_false r1, decide_eq_false r2, decide_eq_false h60]; rfl
              rw [setR_ok ((setF_ok l g).1 hs)] at a2
              have e20' := s20 a2.is (Is.mk' gU b (setL l g)) ((setF_ok l g).1 hs).len
              rw [hs] at e8
              simp only [e7, e8, e9, e10, e12, e13, e14, e17, e19, s11, s15, s18, Option.bind_some, toB_B, toI_I, toS_S, Bool.not_true, Bool.not_false, Bool.true_or, Bool.or_true, Bool.or_false, Bool.false_or, Bool.or_self, Bool.and_self, Bool.and_true, Bool.true_and, Bool.and_false, Bool.false_and, cond_true, cond_false, decide_true, decide_false, fU0, fU1, gU0, gU1, gU2, gU_eta, get_ofL', nth_zero, nth_succ, loK_some_brk, loK_some_ret, d10, d3, d2, hp1, hg0, hw, r1', r2', len_ofL', List.length_map, h60, e20']
  · have hg1 : (gfault l).1 ≠ 0 := fun e => hg0 (gfault_code l e)
    by_cases hp : pfault ps = (0, 0)
    · have _ := hp
      have hF : ofF ps l v = gfault l := by unfold ofF; rw [decide_eq_true hp, decide_eq_false hg0]; rfl
      have hN : ofN ps l v = 0 := by unfold ofN; rw [hF, decide_eq_false hg0]; rfl
      rw [hF, hN] at e7
      have hs : setF l g = gfault l := by unfold setF; rw [decide_eq_false hg0]; rfl
      have e20' := s20 (nil (by rw [hs]; exact hg0)) nl (by simp)
      rw [hs] at e8
      simp only [e7, e8, e9, e10, e12, e13, e14, e17, s11, s15, s18, Option.bind_some, toB_B, toI_I, toS_S, Bool.not_true, Bool.not_false, Bool.true_or, Bool.or_true, Bool.or_false, Bool.false_or, Bool.or_self, Bool.and_self, Bool.and_true, Bool.true_and, Bool.and_false, Bool.false_and, cond_true, cond_false, decide_true, decide_false, fU0, fU1, gU0, gU1, gU2, gU_eta, get_ofL', nth_zero, nth_succ, loK_some_brk, loK_some_ret, d10, d3, d2, hp, hg1, e20']
    · have hp1 : (pfault ps).1 ≠ 0 := fun e => hp (pfault_code ps e)
      have hF : ofF ps l v = pfault ps := by unfold ofF; rw [decide_eq_false hp]; rfl
      have hN : ofN ps l v = 0 := by unfold ofN; rw [hF, decide_eq_false hp]; rfl
      rw [hF, hN] at e7
      have hs : setF l g = gfault l := by unfold setF; rw [decide_eq_false hg0]; rfl
      have e20' := s20 (nil (by rw [hs]; exact hg0)) nl (by simp)
      rw [hs] at e8
      simp only [e7, e8, e9, e10, e12, e13, e14, e17, s11, s15, s18, Option.bind_some, toB_B, toI_I, toS_S, Bool.not_true, Bool.not_false, Bool.true_or, Bool.or_true, Bool.or_false, Bool.false_or, Bool.or_self, Bool.and_self, Bool.and_true, Bool.true_and, Bool.and_false, Bool.false_and, cond_true, cond_false, decide_true, decide_false, fU0, fU1, gU0, gU1, gU2, gU_eta, get_ofL', nth_zero, nth_succ, loK_some_brk, loK_some_ret, d10, d3, d2, hp1, hg1, e20']
end Go.Proofs.Ytegmhhojpngklaa
