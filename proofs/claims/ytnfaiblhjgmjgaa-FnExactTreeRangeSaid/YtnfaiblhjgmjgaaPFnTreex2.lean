-- PRINTED BY print.sh 35421559b90ae4d0a3588c463048766b98c2df88dd9212a6774a882060cdf62d: not written by this session
import Derived.Test.YtnfaiblhjgmjgaaPFnTreex0
namespace Go.Proofs.Ytnfaiblhjgmjgaa.PFnTree
open Go.RowKit Go.Proofs.YtnfaiblhjgmjgaaW.PrintWords Go.Proofs.YtnfaiblhjgmjgaaW.PrintLast Go.Proofs.YtnfaiblhjgmjgaaW.PrintMore
attribute [local go_sem] max2_int min2_int max_two min_two max_three min_three max_four min_four   -- for this text's walks alone
set_option linter.unusedVariables false
set_option linter.unusedSimpArgs false

/-! ### spec_l3SameNodes: function 48 -/
mutual
def spec_l3SameNodes.l0 : Nat → List (S89) → List (S89) → Int → Option (Bool)
  | 0, _, _, _ => none
  | k + 1, x0, x1, x5 => if x5 < (x0.length : Int) then (if 0 ≤ x5 then (if x5 < (x1.length : Int) then (if (((rd_T89 x0 x5).f0) != ((rd_T89 x1 x5).f0)) = true then (spec_l3SameNodes.j1 k x0 x1 x5 true) else (if ((rd_T89 x0 x5).f3) = ((rd_T89 x1 x5).f3) then (if (((rd_T89 x0 x5).f1).length : Int) = (((rd_T89 x1 x5).f1).length : Int) then (spec_l3SameNodes.j1 k x0 x1 x5 ((((rd_T89 x0 x5).f2).length : Int) != (((rd_T89 x1 x5).f2).length : Int))) else (spec_l3SameNodes.j1 k x0 x1 x5 true)) else (spec_l3SameNodes.j1 k x0 x1 x5 true))) else (none)) else (none)) else (some true)
def spec_l3SameNodes.j1 : Nat → List (S89) → List (S89) → Int → Bool → Option (Bool)
  | 0, _, _, _, _ => none
  | k + 1, x0, x1, x5, x72 => if x72 = true then (some false) else (spec_l3SameNodes.l1 k x0 x1 x5 0)
def spec_l3SameNodes.l1 : Nat → List (S89) → List (S89) → Int → Int → Option (Bool)
  | 0, _, _, _, _ => none
  | k + 1, x0, x1, x5, x6 => if 0 ≤ x5 then (if x5 < (x0.length : Int) then (if x6 < (((rd_T89 x0 x5).f1).length : Int) then (if 0 ≤ x6 then (if x5 < (x1.length : Int) then (if x6 < (((rd_T89 x1 x5).f1).length : Int) then (if (rdOf ByteArray.empty ((rd_T89 x0 x5).f1) x6).toList = (rdOf ByteArray.empty ((rd_T89 x1 x5).f1) x6).toList then (spec_l3SameNodes.l1 k x0 x1 x5 (wrap64 (x6 + 1))) else (some false)) else (none)) else (none)) else (none)) else (spec_l3SameNodes.l2 k x0 x1 x5 0)) else (none)) else (none)
def spec_l3SameNodes.l2 : Nat → List (S89) → List (S89) → Int → Int → Option (Bool)
  | 0, _, _, _, _ => none
  | k + 1, x0, x1, x5, x7 => if 0 ≤ x5 then (if x5 < (x0.length : Int) then (if x7 < (((rd_T89 x0 x5).f2).length : Int) then (if 0 ≤ x7 then (if x5 < (x1.length : Int) then (if x7 < (((rd_T89 x1 x5).f2).length : Int) then (if (rd ((rd_T89 x0 x5).f2) x7) = (rd ((rd_T89 x1 x5).f2) x7) then (spec_l3SameNodes.l2 k x0 x1 x5 (wrap64 (x7 + 1))) else (some false)) else (none)) else (none)) else (none)) else (spec_l3SameNodes.l0 k x0 x1 (wrap64 (x5 + 1)))) else (none)) else (none)
end
def spec_l3SameNodes.f (k : Nat) (l0 : List (S89)) (l1 : List (S89)) : Option (Bool) := if (l0.length : Int) = (l1.length : Int) then (spec_l3SameNodes.l0 k l0 l1 0) else (some false)
theorem spec_l3SameNodes.mono_l : ∀ k, (∀ y0 y1 y2, LeO (spec_l3SameNodes.l0 k y0 y1 y2) (spec_l3SameNodes.l0 (k + 1) y0 y1 y2)) ∧ (∀ y0 y1 y2 y3, LeO (spec_l3SameNodes.j1 k y0 y1 y2 y3) (spec_l3SameNodes.j1 (k + 1) y0 y1 y2 y3)) ∧ (∀ y0 y1 y2 y3, LeO (spec_l3SameNodes.l1 k y0 y1 y2 y3) (spec_l3SameNodes.l1 (k + 1) y0 y1 y2 y3)) ∧ (∀ y0 y1 y2 y3, LeO (spec_l3SameNodes.l2 k y0 y1 y2 y3) (spec_l3SameNodes.l2 (k + 1) y0 y1 y2 y3))
  | 0 => ⟨fun _ _ _ r h => by simp [spec_l3SameNodes.l0] at h, fun _ _ _ _ r h => by simp [spec_l3SameNodes.j1] at h, fun _ _ _ _ r h => by simp [spec_l3SameNodes.l1] at h, fun _ _ _ _ r h => by simp [spec_l3SameNodes.l2] at h⟩
  | k + 1 => by
    obtain ⟨ih0, ih1, ih2, ih3⟩ := spec_l3SameNodes.mono_l k
    refine ⟨?_, ?_, ?_, ?_⟩
    · intro y0 y1 y2
      unfold spec_l3SameNodes.l0
      repeat' first
      | (with_reducible exact ih0 _ _ _)
      | (with_reducible exact ih1 _ _ _ _)
      | (with_reducible exact ih2 _ _ _ _)
      | (with_reducible exact ih3 _ _ _ _)
      | (with_reducible exact LeO.refl _)
      | (with_reducible exact LeO.none _)
      | (with_reducible refine LeO.ite ?_ ?_)
      | (with_reducible refine LeO.bind ?_ (fun _ => ?_))
      | exact ih0 _ _ _
      | exact ih1 _ _ _ _
      | exact ih2 _ _ _ _
      | exact ih3 _ _ _ _
      | exact LeO.none _
      | refine LeO.ite ?_ ?_
      | refine LeO.bind ?_ (fun _ => ?_)
    · intro y0 y1 y2 y3
      unfold spec_l3SameNodes.j1
      repeat' first
      | (with_reducible exact ih0 _ _ _)
      | (with_reducible exact ih1 _ _ _ _)
      | (with_reducible exact ih2 _ _ _ _)
      | (with_reducible exact ih3 _ _ _ _)
      | (with_reducible exact LeO.refl _)
      | (with_reducible exact LeO.none _)
      | (with_reducible refine LeO.ite ?_ ?_)
      | (with_reducible refine LeO.bind ?_ (fun _ => ?_))
      | exact ih0 _ _ _
      | exact ih1 _ _ _ _
      | exact ih2 _ _ _ _
      | exact ih3 _ _ _ _
      | exact LeO.none _
      | refine LeO.ite ?_ ?_
      | refine LeO.bind ?_ (fun _ => ?_)
    · intro y0 y1 y2 y3
      unfold spec_l3SameNodes.l1
      repeat' first
      | (with_reducible exact ih0 _ _ _)
      | (with_reducible exact ih1 _ _ _ _)
      | (with_reducible exact ih2 _ _ _ _)
      | (with_reducible exact ih3 _ _ _ _)
      | (with_reducible exact LeO.refl _)
      | (with_reducible exact LeO.none _)
      | (with_reducible refine LeO.ite ?_ ?_)
      | (with_reducible refine LeO.bind ?_ (fun _ => ?_))
      | exact ih0 _ _ _
      | exact ih1 _ _ _ _
      | exact ih2 _ _ _ _
      | exact ih3 _ _ _ _
      | exact LeO.none _
      | refine LeO.ite ?_ ?_
      | refine LeO.bind ?_ (fun _ => ?_)
    · intro y0 y1 y2 y3
      unfold spec_l3SameNodes.l2
      repeat' first
      | (with_reducible exact ih0 _ _ _)
      | (with_reducible exact ih1 _ _ _ _)
      | (with_reducible exact ih2 _ _ _ _)
      | (with_reducible exact ih3 _ _ _ _)
      | (with_reducible exact LeO.refl _)
      | (with_reducible exact LeO.none _)
      | (with_reducible refine LeO.ite ?_ ?_)
      | (with_reducible refine LeO.bind ?_ (fun _ => ?_))
      | exact ih0 _ _ _
      | exact ih1 _ _ _ _
      | exact ih2 _ _ _ _
      | exact ih3 _ _ _ _
      | exact LeO.none _
      | refine LeO.ite ?_ ?_
      | refine LeO.bind ?_ (fun _ => ?_)
theorem spec_l3SameNodes.mono : ∀ a0 a1 k, LeO (spec_l3SameNodes.f k a0 a1) (spec_l3SameNodes.f (k + 1) a0 a1) := by
  intro a0 a1 k
  obtain ⟨ih0, ih1, ih2, ih3⟩ := spec_l3SameNodes.mono_l k
  unfold spec_l3SameNodes.f
  repeat' first
      | (with_reducible exact ih0 _ _ _)
      | (with_reducible exact ih1 _ _ _ _)
      | (with_reducible exact ih2 _ _ _ _)
      | (with_reducible exact ih3 _ _ _ _)
      | (with_reducible exact LeO.refl _)
      | (with_reducible exact LeO.none _)
      | (with_reducible refine LeO.ite ?_ ?_)
      | (with_reducible refine LeO.bind ?_ (fun _ => ?_))
      | exact ih0 _ _ _
      | exact ih1 _ _ _ _
      | exact ih2 _ _ _ _
      | exact ih3 _ _ _ _
      | exact LeO.none _
      | refine LeO.ite ?_ ?_
      | refine LeO.bind ?_ (fun _ => ?_)
set_option maxHeartbeats 8000000 in
set_option maxRecDepth 100000 in
theorem spec_l3SameNodes.calls (k : Nat) (A0 : Option Addr) (c0 : Nat) (l0 : List (S89)) (A1 : Option Addr) (c1 : Nat) (l1 : List (S89)) (r : Bool) (w : World) (hr0 : Kd.C k89 w A0 l0.length l0) (hc0 : l0.length ≤ c0) (hr1 : Kd.C k89 w A1 l1.length l1) (hc1 : l1.length ≤ c1) (h : spec_l3SameNodes.f k l0 l1 = some r) :
    Calls Try.prog 48 #[.slice A0 l0.length c0, .slice A1 l1.length c1] w fun e w' => e = .returned (.bool r) ∧ Drawn0 w w' := by
  have HR0 := Aside0.mk hr0
  have HC0 := Aside0.mk hc0
  clear hr0 hc0
  have HR1 := Aside0.mk hr1
  have HC1 := Aside0.mk hc1
  clear hr1 hc1
  have H : (if (l0.length : Int) = (l1.length : Int) then (spec_l3SameNodes.l0 k l0 l1 0) else (some false)) = some r := h
  clear h
  by_cases c3 : (l0.length : Int) = (l1.length : Int)
  · rw [if_pos c3] at H
    have c3b0 : ((l0.length : Int) == (l1.length : Int)) = true := beq_iff_eq.mpr c3
    have c3b1 : ((l0.length : Int) != (l1.length : Int)) = false := bne_eq_false_iff_eq.mpr c3
    have c3b2 : (l0.length == l1.length) = true := by first | simpa using c3 | (simp at c3 ⊢; omega)
    clear c3
    have H' := Aside0.mk H
    clear H
    go_enter Try.func48, Try.ntmps48
    go_wp2
    repeat (go_quiet (fail); try go_wp2)
    go_loopg [5] k (fun kq v5 w' => ∃ (x5_1 : Int), v5 = .int .i64 x5_1 ∧ Aside0 (spec_l3SameNodes.l0 kq l0 l1 x5_1 = some r) ∧ Aside0 (kq ≤ k) ∧ Drawn0 w w')
    case atStart => exact ⟨(0), (by first | rfl | (simp; done) | (simp [*]; done)), H', ⟨Nat.le_refl _⟩, by repeat (first | exact Drawn0.refl _ | apply Drawn0.step)⟩
    case round =>
      clear H'
      try clear c1
      try clear p2
      try clear c3
      try clear c3b0
      try clear c3b1
      try clear c3b2
      obtain ⟨x5_1, rfl, HA, HK1, ⟨m1, rfl⟩⟩ := hrel
      cases gk with
      | zero => exact absurd HA.out (by simp [spec_l3SameNodes.l0])
      | succ k1 =>
        have H := HA.out
        clear HA
        simp only [spec_l3SameNodes.l0] at H
        by_cases c4 : x5_1 < (l0.length : Int)
        · rw [if_pos c4] at H
          have c4b0 : decide (x5_1 < (l0.length : Int)) = true := decide_eq_true c4
          clear c4
          have HC5 := Aside0.mk H
          clear H
          go_upto_region 6 with (fail)
          repeat (go_quiet (fail); go_upto_region 6 with (fail))
          go_cut [72] (fun v72 wc => ∃ (kq : Nat) (x72_4 : Bool), v72 = .bool x72_4 ∧ Aside0 (spec_l3SameNodes.j1 kq l0 l1 x5_1 x72_4 = some r) ∧ Aside0 (kq ≤ k1) ∧ Drawn0 w wc)
          case first =>
            have H := HC5.out
            clear HC5
            by_cases c6 : 0 ≤ x5_1
            · rw [if_pos c6] at H
              have c6b0 : decide (0 ≤ x5_1) = true := decide_eq_true c6
              clear c6
              (first | rw [c6b0] | (simp only [i64_w, i32_w]; rw [c6b0]) | skip)
              by_cases c7 : x5_1 < (l1.length : Int)
              · rw [if_pos c7] at H
                have c7b0 : decide (x5_1 < (l1.length : Int)) = true := decide_eq_true c7
                clear c7
                by_cases c8 : (((rd_T89 l0 x5_1).f0) != ((rd_T89 l1 x5_1).f0)) = true
                · rw [if_pos c8] at H
                  have c8b0 : (((rd_T89 l0 x5_1).f0) != ((rd_T89 l1 x5_1).f0)) = true := c8
                  (try (have c8b1 : decide (((rd_T89 l0 x5_1).f0) = ((rd_T89 l1 x5_1).f0)) = false := by simpa using c8))
                  (try (have c8b2 : (((rd_T89 l0 x5_1).f0) == ((rd_T89 l1 x5_1).f0)) = false := by simpa using c8))
                  (try (have c8b3 : ¬ (((rd_T89 l0 x5_1).f0) = ((rd_T89 l1 x5_1).f0)) := by simpa using c8))
                  clear c8
                  have H' := Aside0.mk H
                  clear H
                  have p144 : 0 ≤ (x5_1 : Int) := of_decide_eq_true (by first | (with_reducible assumption) | assumption)
                  have q144 : x5_1 < (l0.length : Int) := of_decide_eq_true (by first | (with_reducible assumption) | assumption)
                  obtain ⟨ad144, A144_1, c144_1, A144_2, c144_2, e144, hx144_0, hx144_1, hx144_2, hx144_3, hl144_1, hi144_1, hl144_2, hi144_2⟩ := at_T89 HR0.out x5_1 p144 q144
                  cases e144
                  have HR144_1 := Aside0.mk hi144_1
                  have HC144_1 := Aside0.mk hl144_1
                  clear hi144_1 hl144_1
                  have HR144_2 := Aside0.mk hi144_2
                  have HC144_2 := Aside0.mk hl144_2
                  clear hi144_2 hl144_2
                  replace p144 := eq_true p144
                  replace q144 := eq_true q144
                  have p145 : 0 ≤ (x5_1 : Int) := of_decide_eq_true (by first | (with_reducible assumption) | assumption)
                  have q145 : x5_1 < (l1.length : Int) := of_decide_eq_true (by first | (with_reducible assumption) | assumption)
                  obtain ⟨ad145, A145_1, c145_1, A145_2, c145_2, e145, hx145_0, hx145_1, hx145_2, hx145_3, hl145_1, hi145_1, hl145_2, hi145_2⟩ := at_T89 HR1.out x5_1 p145 q145
                  cases e145
                  have HR145_1 := Aside0.mk hi145_1
                  have HC145_1 := Aside0.mk hl145_1
                  clear hi145_1 hl145_1
                  have HR145_2 := Aside0.mk hi145_2
                  have HC145_2 := Aside0.mk hl145_2
                  clear hi145_2 hl145_2
                  replace p145 := eq_true p145
                  replace q145 := eq_true q145
                  go_wp2
                  repeat (go_quiet (fail); try go_wp2)
                  go_meet
                  case rel => exact ⟨_, (true), (by first | rfl | (simp; done) | (simp [*]; done)), H', ⟨by have := HK1.out; first | omega | exact Nat.le_refl _⟩, by repeat (first | exact Drawn0.refl _ | apply Drawn0.step)⟩
                · rw [if_neg c8] at H
                  have c8b0 : (((rd_T89 l0 x5_1).f0) != ((rd_T89 l1 x5_1).f0)) = false := by simpa using c8
                  (try (have c8b1 : decide (((rd_T89 l0 x5_1).f0) = ((rd_T89 l1 x5_1).f0)) = true := by simpa using c8))
                  (try (have c8b2 : (((rd_T89 l0 x5_1).f0) == ((rd_T89 l1 x5_1).f0)) = true := by simpa using c8))
                  clear c8
                  by_cases c9 : ((rd_T89 l0 x5_1).f3) = ((rd_T89 l1 x5_1).f3)
                  · rw [if_pos c9] at H
                    have c9b0 : (((rd_T89 l0 x5_1).f3) == ((rd_T89 l1 x5_1).f3)) = true := beq_iff_eq.mpr c9
                    have c9b1 : (((rd_T89 l0 x5_1).f3) != ((rd_T89 l1 x5_1).f3)) = false := bne_eq_false_iff_eq.mpr c9
                    clear c9
                    by_cases c10 : (((rd_T89 l0 x5_1).f1).length : Int) = (((rd_T89 l1 x5_1).f1).length : Int)
                    · rw [if_pos c10] at H
                      have c10b0 : ((((rd_T89 l0 x5_1).f1).length : Int) == (((rd_T89 l1 x5_1).f1).length : Int)) = true := beq_iff_eq.mpr c10
                      have c10b1 : ((((rd_T89 l0 x5_1).f1).length : Int) != (((rd_T89 l1 x5_1).f1).length : Int)) = false := bne_eq_false_iff_eq.mpr c10
                      have c10b2 : (((rd_T89 l0 x5_1).f1).length == ((rd_T89 l1 x5_1).f1).length) = true := by first | simpa using c10 | (simp at c10 ⊢; omega)
                      clear c10
                      have H' := Aside0.mk H
                      clear H
                      have p144 : 0 ≤ (x5_1 : Int) := of_decide_eq_true (by first | (with_reducible assumption) | assumption)
                      have q144 : x5_1 < (l0.length : Int) := of_decide_eq_true (by first | (with_reducible assumption) | assumption)
                      obtain ⟨ad144, A144_1, c144_1, A144_2, c144_2, e144, hx144_0, hx144_1, hx144_2, hx144_3, hl144_1, hi144_1, hl144_2, hi144_2⟩ := at_T89 HR0.out x5_1 p144 q144
                      cases e144
                      have HR144_1 := Aside0.mk hi144_1
                      have HC144_1 := Aside0.mk hl144_1
                      clear hi144_1 hl144_1
                      have HR144_2 := Aside0.mk hi144_2
                      have HC144_2 := Aside0.mk hl144_2
                      clear hi144_2 hl144_2
                      replace p144 := eq_true p144
                      replace q144 := eq_true q144
                      have p145 : 0 ≤ (x5_1 : Int) := of_decide_eq_true (by first | (with_reducible assumption) | assumption)
                      have q145 : x5_1 < (l1.length : Int) := of_decide_eq_true (by first | (with_reducible assumption) | assumption)
                      obtain ⟨ad145, A145_1, c145_1, A145_2, c145_2, e145, hx145_0, hx145_1, hx145_2, hx145_3, hl145_1, hi145_1, hl145_2, hi145_2⟩ := at_T89 HR1.out x5_1 p145 q145
                      cases e145
                      have HR145_1 := Aside0.mk hi145_1
                      have HC145_1 := Aside0.mk hl145_1
                      clear hi145_1 hl145_1
                      have HR145_2 := Aside0.mk hi145_2
                      have HC145_2 := Aside0.mk hl145_2
                      clear hi145_2 hl145_2
                      replace p145 := eq_true p145
                      replace q145 := eq_true q145
                      have p146 : 0 ≤ (x5_1 : Int) := of_decide_eq_true (by first | (with_reducible assumption) | assumption)
                      have q146 : x5_1 < (l0.length : Int) := of_decide_eq_true (by first | (with_reducible assumption) | assumption)
                      obtain ⟨ad146, A146_1, c146_1, A146_2, c146_2, e146, hx146_0, hx146_1, hx146_2, hx146_3, hl146_1, hi146_1, hl146_2, hi146_2⟩ := at_T89 HR0.out x5_1 p146 q146
                      obtain rfl : ad144 = ad146 := (by injection e146)
                      have HR146_1 := Aside0.mk hi146_1
                      have HC146_1 := Aside0.mk hl146_1
                      clear hi146_1 hl146_1
                      have HR146_2 := Aside0.mk hi146_2
                      have HC146_2 := Aside0.mk hl146_2
                      clear hi146_2 hl146_2
                      replace p146 := eq_true p146
                      replace q146 := eq_true q146
                      have ea_ := Option.some.inj (hx144_1.symm.trans hx146_1)
                      injection ea_ with ea_ en_ ec_
                      subst ea_
                      subst ec_
                      clear en_
                      have ea_ := Option.some.inj (hx144_2.symm.trans hx146_2)
                      injection ea_ with ea_ en_ ec_
                      subst ea_
                      subst ec_
                      clear en_
                      have p147 : 0 ≤ (x5_1 : Int) := of_decide_eq_true (by first | (with_reducible assumption) | assumption)
                      have q147 : x5_1 < (l1.length : Int) := of_decide_eq_true (by first | (with_reducible assumption) | assumption)
                      obtain ⟨ad147, A147_1, c147_1, A147_2, c147_2, e147, hx147_0, hx147_1, hx147_2, hx147_3, hl147_1, hi147_1, hl147_2, hi147_2⟩ := at_T89 HR1.out x5_1 p147 q147
                      obtain rfl : ad145 = ad147 := (by injection e147)
                      have HR147_1 := Aside0.mk hi147_1
                      have HC147_1 := Aside0.mk hl147_1
                      clear hi147_1 hl147_1
                      have HR147_2 := Aside0.mk hi147_2
                      have HC147_2 := Aside0.mk hl147_2
                      clear hi147_2 hl147_2
                      replace p147 := eq_true p147
                      replace q147 := eq_true q147
                      have ea_ := Option.some.inj (hx145_1.symm.trans hx147_1)
                      injection ea_ with ea_ en_ ec_
                      subst ea_
                      subst ec_
                      clear en_
                      have ea_ := Option.some.inj (hx145_2.symm.trans hx147_2)
                      injection ea_ with ea_ en_ ec_
                      subst ea_
                      subst ec_
                      clear en_
                      have p148 : 0 ≤ (x5_1 : Int) := of_decide_eq_true (by first | (with_reducible assumption) | assumption)
                      have q148 : x5_1 < (l0.length : Int) := of_decide_eq_true (by first | (with_reducible assumption) | assumption)
                      obtain ⟨ad148, A148_1, c148_1, A148_2, c148_2, e148, hx148_0, hx148_1, hx148_2, hx148_3, hl148_1, hi148_1, hl148_2, hi148_2⟩ := at_T89 HR0.out x5_1 p148 q148
                      obtain rfl : ad144 = ad148 := (by injection e148)
                      have HR148_1 := Aside0.mk hi148_1
                      have HC148_1 := Aside0.mk hl148_1
                      clear hi148_1 hl148_1
                      have HR148_2 := Aside0.mk hi148_2
                      have HC148_2 := Aside0.mk hl148_2
                      clear hi148_2 hl148_2
                      replace p148 := eq_true p148
                      replace q148 := eq_true q148
                      have ea_ := Option.some.inj (hx144_1.symm.trans hx148_1)
                      injection ea_ with ea_ en_ ec_
                      subst ea_
                      subst ec_
                      clear en_
                      have ea_ := Option.some.inj (hx144_2.symm.trans hx148_2)
                      injection ea_ with ea_ en_ ec_
                      subst ea_
                      subst ec_
                      clear en_
                      have p149 : 0 ≤ (x5_1 : Int) := of_decide_eq_true (by first | (with_reducible assumption) | assumption)
                      have q149 : x5_1 < (l1.length : Int) := of_decide_eq_true (by first | (with_reducible assumption) | assumption)
                      obtain ⟨ad149, A149_1, c149_1, A149_2, c149_2, e149, hx149_0, hx149_1, hx149_2, hx149_3, hl149_1, hi149_1, hl149_2, hi149_2⟩ := at_T89 HR1.out x5_1 p149 q149
                      obtain rfl : ad145 = ad149 := (by injection e149)
                      have HR149_1 := Aside0.mk hi149_1
                      have HC149_1 := Aside0.mk hl149_1
                      clear hi149_1 hl149_1
                      have HR149_2 := Aside0.mk hi149_2
                      have HC149_2 := Aside0.mk hl149_2
                      clear hi149_2 hl149_2
                      replace p149 := eq_true p149
                      replace q149 := eq_true q149
                      have ea_ := Option.some.inj (hx145_1.symm.trans hx149_1)
                      injection ea_ with ea_ en_ ec_
                      subst ea_
                      subst ec_
                      clear en_
                      have ea_ := Option.some.inj (hx145_2.symm.trans hx149_2)
                      injection ea_ with ea_ en_ ec_
                      subst ea_
                      subst ec_
                      clear en_
                      have p150 : 0 ≤ (x5_1 : Int) := of_decide_eq_true (by first | (with_reducible assumption) | assumption)
                      have q150 : x5_1 < (l0.length : Int) := of_decide_eq_true (by first | (with_reducible assumption) | assumption)
                      obtain ⟨ad150, A150_1, c150_1, A150_2, c150_2, e150, hx150_0, hx150_1, hx150_2, hx150_3, hl150_1, hi150_1, hl150_2, hi150_2⟩ := at_T89 HR0.out x5_1 p150 q150
                      obtain rfl : ad144 = ad150 := (by injection e150)
                      have HR150_1 := Aside0.mk hi150_1
                      have HC150_1 := Aside0.mk hl150_1
                      clear hi150_1 hl150_1
                      have HR150_2 := Aside0.mk hi150_2
                      have HC150_2 := Aside0.mk hl150_2
                      clear hi150_2 hl150_2
                      replace p150 := eq_true p150
                      replace q150 := eq_true q150
                      have ea_ := Option.some.inj (hx144_1.symm.trans hx150_1)
                      injection ea_ with ea_ en_ ec_
                      subst ea_
                      subst ec_
                      clear en_
                      have ea_ := Option.some.inj (hx144_2.symm.trans hx150_2)
                      injection ea_ with ea_ en_ ec_
                      subst ea_
                      subst ec_
                      clear en_
                      have p151 : 0 ≤ (x5_1 : Int) := of_decide_eq_true (by first | (with_reducible assumption) | assumption)
                      have q151 : x5_1 < (l1.length : Int) := of_decide_eq_true (by first | (with_reducible assumption) | assumption)
                      obtain ⟨ad151, A151_1, c151_1, A151_2, c151_2, e151, hx151_0, hx151_1, hx151_2, hx151_3, hl151_1, hi151_1, hl151_2, hi151_2⟩ := at_T89 HR1.out x5_1 p151 q151
                      obtain rfl : ad145 = ad151 := (by injection e151)
                      have HR151_1 := Aside0.mk hi151_1
                      have HC151_1 := Aside0.mk hl151_1
                      clear hi151_1 hl151_1
                      have HR151_2 := Aside0.mk hi151_2
                      have HC151_2 := Aside0.mk hl151_2
                      clear hi151_2 hl151_2
                      replace p151 := eq_true p151
                      replace q151 := eq_true q151
                      have ea_ := Option.some.inj (hx145_1.symm.trans hx151_1)
                      injection ea_ with ea_ en_ ec_
                      subst ea_
                      subst ec_
                      clear en_
                      have ea_ := Option.some.inj (hx145_2.symm.trans hx151_2)
                      injection ea_ with ea_ en_ ec_
                      subst ea_
                      subst ec_
                      clear en_
                      go_wp2
                      repeat (go_quiet (fail); try go_wp2)
                      go_meet
                      case rel => exact ⟨_, (((((rd_T89 l0 x5_1).f2).length : Int) != (((rd_T89 l1 x5_1).f2).length : Int))), (by first | rfl | (simp; done) | (simp [*]; done)), H', ⟨by have := HK1.out; first | omega | exact Nat.le_refl _⟩, by repeat (first | exact Drawn0.refl _ | apply Drawn0.step)⟩
                    · rw [if_neg c10] at H
                      have c10b0 : ((((rd_T89 l0 x5_1).f1).length : Int) == (((rd_T89 l1 x5_1).f1).length : Int)) = false := beq_eq_false_iff_ne.mpr c10
                      have c10b1 : ((((rd_T89 l0 x5_1).f1).length : Int) != (((rd_T89 l1 x5_1).f1).length : Int)) = true := bne_iff_ne.mpr c10
                      have c10b2 : (((rd_T89 l0 x5_1).f1).length == ((rd_T89 l1 x5_1).f1).length) = false := by first | simpa using c10 | (simp at c10 ⊢; omega)
                      have H' := Aside0.mk H
                      clear H
                      have p144 : 0 ≤ (x5_1 : Int) := of_decide_eq_true (by first | (with_reducible assumption) | assumption)
                      have q144 : x5_1 < (l0.length : Int) := of_decide_eq_true (by first | (with_reducible assumption) | assumption)
                      obtain ⟨ad144, A144_1, c144_1, A144_2, c144_2, e144, hx144_0, hx144_1, hx144_2, hx144_3, hl144_1, hi144_1, hl144_2, hi144_2⟩ := at_T89 HR0.out x5_1 p144 q144
                      cases e144
                      have HR144_1 := Aside0.mk hi144_1
                      have HC144_1 := Aside0.mk hl144_1
                      clear hi144_1 hl144_1
                      have HR144_2 := Aside0.mk hi144_2
                      have HC144_2 := Aside0.mk hl144_2
                      clear hi144_2 hl144_2
                      replace p144 := eq_true p144
                      replace q144 := eq_true q144
                      have p145 : 0 ≤ (x5_1 : Int) := of_decide_eq_true (by first | (with_reducible assumption) | assumption)
                      have q145 : x5_1 < (l1.length : Int) := of_decide_eq_true (by first | (with_reducible assumption) | assumption)
                      obtain ⟨ad145, A145_1, c145_1, A145_2, c145_2, e145, hx145_0, hx145_1, hx145_2, hx145_3, hl145_1, hi145_1, hl145_2, hi145_2⟩ := at_T89 HR1.out x5_1 p145 q145
                      cases e145
                      have HR145_1 := Aside0.mk hi145_1
                      have HC145_1 := Aside0.mk hl145_1
                      clear hi145_1 hl145_1
                      have HR145_2 := Aside0.mk hi145_2
                      have HC145_2 := Aside0.mk hl145_2
                      clear hi145_2 hl145_2
                      replace p145 := eq_true p145
                      replace q145 := eq_true q145
                      have p146 : 0 ≤ (x5_1 : Int) := of_decide_eq_true (by first | (with_reducible assumption) | assumption)
                      have q146 : x5_1 < (l0.length : Int) := of_decide_eq_true (by first | (with_reducible assumption) | assumption)
                      obtain ⟨ad146, A146_1, c146_1, A146_2, c146_2, e146, hx146_0, hx146_1, hx146_2, hx146_3, hl146_1, hi146_1, hl146_2, hi146_2⟩ := at_T89 HR0.out x5_1 p146 q146
                      obtain rfl : ad144 = ad146 := (by injection e146)
                      have HR146_1 := Aside0.mk hi146_1
                      have HC146_1 := Aside0.mk hl146_1
                      clear hi146_1 hl146_1
                      have HR146_2 := Aside0.mk hi146_2
                      have HC146_2 := Aside0.mk hl146_2
                      clear hi146_2 hl146_2
                      replace p146 := eq_true p146
                      replace q146 := eq_true q146
                      have ea_ := Option.some.inj (hx144_1.symm.trans hx146_1)
                      injection ea_ with ea_ en_ ec_
                      subst ea_
                      subst ec_
                      clear en_
                      have ea_ := Option.some.inj (hx144_2.symm.trans hx146_2)
                      injection ea_ with ea_ en_ ec_
                      subst ea_
                      subst ec_
                      clear en_
                      have p147 : 0 ≤ (x5_1 : Int) := of_decide_eq_true (by first | (with_reducible assumption) | assumption)
                      have q147 : x5_1 < (l1.length : Int) := of_decide_eq_true (by first | (with_reducible assumption) | assumption)
                      obtain ⟨ad147, A147_1, c147_1, A147_2, c147_2, e147, hx147_0, hx147_1, hx147_2, hx147_3, hl147_1, hi147_1, hl147_2, hi147_2⟩ := at_T89 HR1.out x5_1 p147 q147
                      obtain rfl : ad145 = ad147 := (by injection e147)
                      have HR147_1 := Aside0.mk hi147_1
                      have HC147_1 := Aside0.mk hl147_1
                      clear hi147_1 hl147_1
                      have HR147_2 := Aside0.mk hi147_2
                      have HC147_2 := Aside0.mk hl147_2
                      clear hi147_2 hl147_2
                      replace p147 := eq_true p147
                      replace q147 := eq_true q147
                      have ea_ := Option.some.inj (hx145_1.symm.trans hx147_1)
                      injection ea_ with ea_ en_ ec_
                      subst ea_
                      subst ec_
                      clear en_
                      have ea_ := Option.some.inj (hx145_2.symm.trans hx147_2)
                      injection ea_ with ea_ en_ ec_
                      subst ea_
                      subst ec_
                      clear en_
                      have p148 : 0 ≤ (x5_1 : Int) := of_decide_eq_true (by first | (with_reducible assumption) | assumption)
                      have q148 : x5_1 < (l0.length : Int) := of_decide_eq_true (by first | (with_reducible assumption) | assumption)
                      obtain ⟨ad148, A148_1, c148_1, A148_2, c148_2, e148, hx148_0, hx148_1, hx148_2, hx148_3, hl148_1, hi148_1, hl148_2, hi148_2⟩ := at_T89 HR0.out x5_1 p148 q148
                      obtain rfl : ad144 = ad148 := (by injection e148)
                      have HR148_1 := Aside0.mk hi148_1
                      have HC148_1 := Aside0.mk hl148_1
                      clear hi148_1 hl148_1
                      have HR148_2 := Aside0.mk hi148_2
                      have HC148_2 := Aside0.mk hl148_2
                      clear hi148_2 hl148_2
                      replace p148 := eq_true p148
                      replace q148 := eq_true q148
                      have ea_ := Option.some.inj (hx144_1.symm.trans hx148_1)
                      injection ea_ with ea_ en_ ec_
                      subst ea_
                      subst ec_
                      clear en_
                      have ea_ := Option.some.inj (hx144_2.symm.trans hx148_2)
                      injection ea_ with ea_ en_ ec_
                      subst ea_
                      subst ec_
                      clear en_
                      have p149 : 0 ≤ (x5_1 : Int) := of_decide_eq_true (by first | (with_reducible assumption) | assumption)
                      have q149 : x5_1 < (l1.length : Int) := of_decide_eq_true (by first | (with_reducible assumption) | assumption)
                      obtain ⟨ad149, A149_1, c149_1, A149_2, c149_2, e149, hx149_0, hx149_1, hx149_2, hx149_3, hl149_1, hi149_1, hl149_2, hi149_2⟩ := at_T89 HR1.out x5_1 p149 q149
                      obtain rfl : ad145 = ad149 := (by injection e149)
                      have HR149_1 := Aside0.mk hi149_1
                      have HC149_1 := Aside0.mk hl149_1
                      clear hi149_1 hl149_1
                      have HR149_2 := Aside0.mk hi149_2
                      have HC149_2 := Aside0.mk hl149_2
                      clear hi149_2 hl149_2
                      replace p149 := eq_true p149
                      replace q149 := eq_true q149
                      have ea_ := Option.some.inj (hx145_1.symm.trans hx149_1)
                      injection ea_ with ea_ en_ ec_
                      subst ea_
                      subst ec_
                      clear en_
                      have ea_ := Option.some.inj (hx145_2.symm.trans hx149_2)
                      injection ea_ with ea_ en_ ec_
                      subst ea_
                      subst ec_
                      clear en_
                      go_wp2
                      repeat (go_quiet (fail); try go_wp2)
                      go_meet
                      case rel => exact ⟨_, (true), (by first | rfl | (simp; done) | (simp [*]; done)), H', ⟨by have := HK1.out; first | omega | exact Nat.le_refl _⟩, by repeat (first | exact Drawn0.refl _ | apply Drawn0.step)⟩
                  · rw [if_neg c9] at H
                    have c9b0 : (((rd_T89 l0 x5_1).f3) == ((rd_T89 l1 x5_1).f3)) = false := beq_eq_false_iff_ne.mpr c9
                    have c9b1 : (((rd_T89 l0 x5_1).f3) != ((rd_T89 l1 x5_1).f3)) = true := bne_iff_ne.mpr c9
                    have H' := Aside0.mk H
                    clear H
                    have p144 : 0 ≤ (x5_1 : Int) := of_decide_eq_true (by first | (with_reducible assumption) | assumption)
                    have q144 : x5_1 < (l0.length : Int) := of_decide_eq_true (by first | (with_reducible assumption) | assumption)
                    obtain ⟨ad144, A144_1, c144_1, A144_2, c144_2, e144, hx144_0, hx144_1, hx144_2, hx144_3, hl144_1, hi144_1, hl144_2, hi144_2⟩ := at_T89 HR0.out x5_1 p144 q144
                    cases e144
                    have HR144_1 := Aside0.mk hi144_1
                    have HC144_1 := Aside0.mk hl144_1
                    clear hi144_1 hl144_1
                    have HR144_2 := Aside0.mk hi144_2
                    have HC144_2 := Aside0.mk hl144_2
                    clear hi144_2 hl144_2
                    replace p144 := eq_true p144
                    replace q144 := eq_true q144
                    have p145 : 0 ≤ (x5_1 : Int) := of_decide_eq_true (by first | (with_reducible assumption) | assumption)
                    have q145 : x5_1 < (l1.length : Int) := of_decide_eq_true (by first | (with_reducible assumption) | assumption)
                    obtain ⟨ad145, A145_1, c145_1, A145_2, c145_2, e145, hx145_0, hx145_1, hx145_2, hx145_3, hl145_1, hi145_1, hl145_2, hi145_2⟩ := at_T89 HR1.out x5_1 p145 q145
                    cases e145
                    have HR145_1 := Aside0.mk hi145_1
                    have HC145_1 := Aside0.mk hl145_1
                    clear hi145_1 hl145_1
                    have HR145_2 := Aside0.mk hi145_2
                    have HC145_2 := Aside0.mk hl145_2
                    clear hi145_2 hl145_2
                    replace p145 := eq_true p145
                    replace q145 := eq_true q145
                    have p146 : 0 ≤ (x5_1 : Int) := of_decide_eq_true (by first | (with_reducible assumption) | assumption)
                    have q146 : x5_1 < (l0.length : Int) := of_decide_eq_true (by first | (with_reducible assumption) | assumption)
                    obtain ⟨ad146, A146_1, c146_1, A146_2, c146_2, e146, hx146_0, hx146_1, hx146_2, hx146_3, hl146_1, hi146_1, hl146_2, hi146_2⟩ := at_T89 HR0.out x5_1 p146 q146
                    obtain rfl : ad144 = ad146 := (by injection e146)
                    have HR146_1 := Aside0.mk hi146_1
                    have HC146_1 := Aside0.mk hl146_1
                    clear hi146_1 hl146_1
                    have HR146_2 := Aside0.mk hi146_2
                    have HC146_2 := Aside0.mk hl146_2
                    clear hi146_2 hl146_2
                    replace p146 := eq_true p146
                    replace q146 := eq_true q146
                    have ea_ := Option.some.inj (hx144_1.symm.trans hx146_1)
                    injection ea_ with ea_ en_ ec_
                    subst ea_
                    subst ec_
                    clear en_
                    have ea_ := Option.some.inj (hx144_2.symm.trans hx146_2)
                    injection ea_ with ea_ en_ ec_
                    subst ea_
                    subst ec_
                    clear en_
                    have p147 : 0 ≤ (x5_1 : Int) := of_decide_eq_true (by first | (with_reducible assumption) | assumption)
                    have q147 : x5_1 < (l1.length : Int) := of_decide_eq_true (by first | (with_reducible assumption) | assumption)
                    obtain ⟨ad147, A147_1, c147_1, A147_2, c147_2, e147, hx147_0, hx147_1, hx147_2, hx147_3, hl147_1, hi147_1, hl147_2, hi147_2⟩ := at_T89 HR1.out x5_1 p147 q147
                    obtain rfl : ad145 = ad147 := (by injection e147)
                    have HR147_1 := Aside0.mk hi147_1
                    have HC147_1 := Aside0.mk hl147_1
                    clear hi147_1 hl147_1
                    have HR147_2 := Aside0.mk hi147_2
                    have HC147_2 := Aside0.mk hl147_2
                    clear hi147_2 hl147_2
                    replace p147 := eq_true p147
                    replace q147 := eq_true q147
                    have ea_ := Option.some.inj (hx145_1.symm.trans hx147_1)
                    injection ea_ with ea_ en_ ec_
                    subst ea_
                    subst ec_
                    clear en_
                    have ea_ := Option.some.inj (hx145_2.symm.trans hx147_2)
                    injection ea_ with ea_ en_ ec_
                    subst ea_
                    subst ec_
                    clear en_
                    go_wp2
                    repeat (go_quiet (fail); try go_wp2)
                    go_meet
                    case rel => exact ⟨_, (true), (by first | rfl | (simp; done) | (simp [*]; done)), H', ⟨by have := HK1.out; first | omega | exact Nat.le_refl _⟩, by repeat (first | exact Drawn0.refl _ | apply Drawn0.step)⟩
              · rw [if_neg c7] at H
                exact absurd H (by simp)
            · rw [if_neg c6] at H
              exact absurd H (by simp)
          case rest =>
            clear HC5
            try clear c1
            try clear p1
            try clear q1
            try clear hx1
            try clear p2
            try clear c3
            try clear c3b0
            try clear c3b1
            try clear c3b2
            try clear c4
            try clear c4b0
            try clear c6
            try clear c6b0
            try clear c7
            try clear c7b0
            try clear c8
            try clear c8b0
            try clear c8b1
            try clear c8b2
            try clear c9
            try clear c9b0
            try clear c9b1
            try clear c10
            try clear c10b0
            try clear c10b1
            try clear c10b2
            try clear hx144_0
            try clear hx144_1
            try clear hx144_2
            try clear hx144_3
            try clear hx145_0
            try clear hx145_1
            try clear hx145_2
            try clear hx145_3
            try clear hx146_0
            try clear hx146_1
            try clear hx146_2
            try clear hx146_3
            try clear hx147_0
            try clear hx147_1
            try clear hx147_2
            try clear hx147_3
            try clear hx148_0
            try clear hx148_1
            try clear hx148_2
            try clear hx148_3
            try clear hx149_0
            try clear hx149_1
            try clear hx149_2
            try clear hx149_3
            try clear hx150_0
            try clear hx150_1
            try clear hx150_2
            try clear hx150_3
            try clear hx151_0
            try clear hx151_1
            try clear hx151_2
            try clear hx151_3
            try clear p144
            try clear p145
            try clear p146
            try clear p147
            try clear p148
            try clear p149
            try clear p150
            try clear p151
            try clear p2
            try clear q144
            try clear q145
            try clear q146
            try clear q147
            try clear q148
            try clear q149
            try clear q150
            try clear q151
            obtain ⟨kq, x72_4, rfl, HA, HJ4, ⟨mc4, rfl⟩⟩ := hcut
            cases kq with
            | zero => exact absurd HA.out (by simp [spec_l3SameNodes.j1])
            | succ kj4 =>
              have H := HA.out
              clear HA
              simp only [spec_l3SameNodes.j1] at H
              by_cases c11 : x72_4 = true
              · subst c11
                have H1 : (some false) = some r := by rw [if_pos rfl] at H; exact H
                clear H
                have H := H1
                clear H1
                obtain rfl := Option.some.inj H
                go_wp2
                repeat (go_quiet (fail); try go_wp2)
                go_ret
                exact ⟨by first | rfl | (simp; done) | (simp [*]; done), by repeat (first | exact Drawn0.refl _ | apply Drawn0.step)⟩
              · replace c11 := Bool.eq_false_iff.mpr c11
                subst c11
                have H1 : (spec_l3SameNodes.l1 kj4 l0 l1 x5_1 0) = some r := by rw [if_neg (show ¬ (false = true) by decide)] at H; exact H
                clear H
                have H := H1
                clear H1
                have H' := Aside0.mk H
                clear H
                go_wp2
                repeat (go_quiet (fail); try go_wp2)
                go_loopg [6] kj4 (fun kq v6 w' => ∃ (x6_3 : Int), v6 = .int .i64 x6_3 ∧ Aside0 (spec_l3SameNodes.l1 kq l0 l1 x5_1 x6_3 = some r) ∧ Aside0 (kq ≤ kj4) ∧ Drawn0 w w')
                case atStart => exact ⟨(0), (by first | rfl | (simp; done) | (simp [*]; done)), H', ⟨Nat.le_refl _⟩, by repeat (first | exact Drawn0.refl _ | apply Drawn0.step)⟩
                case round =>
                  clear H'
                  try clear c1
                  try clear p1
                  try clear q1
                  try clear hx1
                  try clear p2
                  try clear c3
                  try clear c3b0
                  try clear c3b1
                  try clear c3b2
                  try clear c4
                  try clear c4b0
                  try clear c6
                  try clear c6b0
                  try clear c7
                  try clear c7b0
                  try clear c8
                  try clear c8b0
                  try clear c8b1
                  try clear c8b2
                  try clear c9
                  try clear c9b0
                  try clear c9b1
                  try clear c10
                  try clear c10b0
                  try clear c10b1
                  try clear c10b2
                  try clear c11
                  try clear hx144_0
                  try clear hx144_1
                  try clear hx144_2
                  try clear hx144_3
                  try clear hx145_0
                  try clear hx145_1
                  try clear hx145_2
                  try clear hx145_3
                  try clear hx146_0
                  try clear hx146_1
                  try clear hx146_2
                  try clear hx146_3
                  try clear hx147_0
                  try clear hx147_1
                  try clear hx147_2
                  try clear hx147_3
                  try clear hx148_0
                  try clear hx148_1
                  try clear hx148_2
                  try clear hx148_3
                  try clear hx149_0
                  try clear hx149_1
                  try clear hx149_2
                  try clear hx149_3
                  try clear hx150_0
                  try clear hx150_1
                  try clear hx150_2
                  try clear hx150_3
                  try clear hx151_0
                  try clear hx151_1
                  try clear hx151_2
                  try clear hx151_3
                  try clear p1
                  try clear p144
                  try clear p145
                  try clear p146
                  try clear p147
                  try clear p148
                  try clear p149
                  try clear p150
                  try clear p151
                  try clear p2
                  try clear q1
                  try clear q144
                  try clear q145
                  try clear q146
                  try clear q147
                  try clear q148
                  try clear q149
                  try clear q150
                  try clear q151
                  obtain ⟨x6_3, rfl, HA, HK3, ⟨m3, rfl⟩⟩ := hrel
                  cases gk with
                  | zero => exact absurd HA.out (by simp [spec_l3SameNodes.l1])
                  | succ k3 =>
                    have H := HA.out
                    clear HA
                    simp only [spec_l3SameNodes.l1] at H
                    by_cases c12 : 0 ≤ x5_1
                    · rw [if_pos c12] at H
                      have c12b0 : decide (0 ≤ x5_1) = true := decide_eq_true c12
                      clear c12
                      by_cases c13 : x5_1 < (l0.length : Int)
                      · rw [if_pos c13] at H
                        have c13b0 : decide (x5_1 < (l0.length : Int)) = true := decide_eq_true c13
                        clear c13
                        by_cases c14 : x6_3 < (((rd_T89 l0 x5_1).f1).length : Int)
                        · rw [if_pos c14] at H
                          have c14b0 : decide (x6_3 < (((rd_T89 l0 x5_1).f1).length : Int)) = true := decide_eq_true c14
                          clear c14
                          by_cases c15 : 0 ≤ x6_3
                          · rw [if_pos c15] at H
                            have c15b0 : decide (0 ≤ x6_3) = true := decide_eq_true c15
                            clear c15
                            by_cases c16 : x5_1 < (l1.length : Int)
                            · rw [if_pos c16] at H
                              have c16b0 : decide (x5_1 < (l1.length : Int)) = true := decide_eq_true c16
                              clear c16
                              by_cases c17 : x6_3 < (((rd_T89 l1 x5_1).f1).length : Int)
                              · rw [if_pos c17] at H
                                have c17b0 : decide (x6_3 < (((rd_T89 l1 x5_1).f1).length : Int)) = true := decide_eq_true c17
                                clear c17
                                by_cases c18 : (rdOf ByteArray.empty ((rd_T89 l0 x5_1).f1) x6_3).toList = (rdOf ByteArray.empty ((rd_T89 l1 x5_1).f1) x6_3).toList
                                · rw [if_pos c18] at H
                                  have c18b0 : ((rdOf ByteArray.empty ((rd_T89 l0 x5_1).f1) x6_3).toList == (rdOf ByteArray.empty ((rd_T89 l1 x5_1).f1) x6_3).toList) = true := beq_iff_eq.mpr c18
                                  have c18b1 : ((rdOf ByteArray.empty ((rd_T89 l0 x5_1).f1) x6_3).toList != (rdOf ByteArray.empty ((rd_T89 l1 x5_1).f1) x6_3).toList) = false := bne_eq_false_iff_eq.mpr c18
                                  clear c18
                                  have H' := Aside0.mk H
                                  clear H
                                  have p152 : 0 ≤ (x5_1 : Int) := of_decide_eq_true (by first | (with_reducible assumption) | assumption)
                                  have q152 : x5_1 < (l0.length : Int) := of_decide_eq_true (by first | (with_reducible assumption) | assumption)
                                  obtain ⟨ad152, A152_1, c152_1, A152_2, c152_2, e152, hx152_0, hx152_1, hx152_2, hx152_3, hl152_1, hi152_1, hl152_2, hi152_2⟩ := at_T89 HR0.out x5_1 p152 q152
                                  cases e152
                                  have HR152_1 := Aside0.mk hi152_1
                                  have HC152_1 := Aside0.mk hl152_1
                                  clear hi152_1 hl152_1
                                  have HR152_2 := Aside0.mk hi152_2
                                  have HC152_2 := Aside0.mk hl152_2
                                  clear hi152_2 hl152_2
                                  replace p152 := eq_true p152
                                  replace q152 := eq_true q152
                                  have p153 : 0 ≤ (x5_1 : Int) := of_decide_eq_true (by first | (with_reducible assumption) | assumption)
                                  have q153 : x5_1 < (l0.length : Int) := of_decide_eq_true (by first | (with_reducible assumption) | assumption)
                                  obtain ⟨ad153, A153_1, c153_1, A153_2, c153_2, e153, hx153_0, hx153_1, hx153_2, hx153_3, hl153_1, hi153_1, hl153_2, hi153_2⟩ := at_T89 HR0.out x5_1 p153 q153
                                  obtain rfl : ad152 = ad153 := (by injection e153)
                                  have HR153_1 := Aside0.mk hi153_1
                                  have HC153_1 := Aside0.mk hl153_1
                                  clear hi153_1 hl153_1
                                  have HR153_2 := Aside0.mk hi153_2
                                  have HC153_2 := Aside0.mk hl153_2
                                  clear hi153_2 hl153_2
                                  replace p153 := eq_true p153
                                  replace q153 := eq_true q153
                                  have ea_ := Option.some.inj (hx152_1.symm.trans hx153_1)
                                  injection ea_ with ea_ en_ ec_
                                  subst ea_
                                  subst ec_
                                  clear en_
                                  have ea_ := Option.some.inj (hx152_2.symm.trans hx153_2)
                                  injection ea_ with ea_ en_ ec_
                                  subst ea_
                                  subst ec_
                                  clear en_
                                  have p154 : 0 ≤ (x6_3 : Int) := of_decide_eq_true (by first | (with_reducible assumption) | assumption)
                                  have q154 : x6_3 < (((rd_T89 l0 x5_1).f1).length : Int) := of_decide_eq_true (by first | (with_reducible assumption) | assumption)
                                  obtain ⟨ad154, e154, hx154_0⟩ := Kd.at_string HR153_1.out x6_3 p154 q154
                                  cases e154
                                  replace p154 := eq_true p154
                                  replace q154 := eq_true q154
                                  have p155 : 0 ≤ (x5_1 : Int) := of_decide_eq_true (by first | (with_reducible assumption) | assumption)
                                  have q155 : x5_1 < (l1.length : Int) := of_decide_eq_true (by first | (with_reducible assumption) | assumption)
                                  obtain ⟨ad155, A155_1, c155_1, A155_2, c155_2, e155, hx155_0, hx155_1, hx155_2, hx155_3, hl155_1, hi155_1, hl155_2, hi155_2⟩ := at_T89 HR1.out x5_1 p155 q155
                                  cases e155
                                  have HR155_1 := Aside0.mk hi155_1
                                  have HC155_1 := Aside0.mk hl155_1
                                  clear hi155_1 hl155_1
                                  have HR155_2 := Aside0.mk hi155_2
                                  have HC155_2 := Aside0.mk hl155_2
                                  clear hi155_2 hl155_2
                                  replace p155 := eq_true p155
                                  replace q155 := eq_true q155
                                  have p156 : 0 ≤ (x6_3 : Int) := of_decide_eq_true (by first | (with_reducible assumption) | assumption)
                                  have q156 : x6_3 < (((rd_T89 l1 x5_1).f1).length : Int) := of_decide_eq_true (by first | (with_reducible assumption) | assumption)
                                  obtain ⟨ad156, e156, hx156_0⟩ := Kd.at_string HR155_1.out x6_3 p156 q156
                                  cases e156
                                  replace p156 := eq_true p156
                                  replace q156 := eq_true q156
                                  go_wp2
                                  repeat (go_quiet (fail); try go_wp2)
                                  go_roundg k3
                                  case measure => have := HK1.out; have := HJ4.out; have := HK3.out; omega
                                  case rel => exact ⟨(wrap64 (x6_3 + 1)), (by first | rfl | (simp; done) | (simp [*]; done)), H', ⟨by have := HK1.out; have := HJ4.out; have := HK3.out; omega⟩, by repeat (first | exact Drawn0.refl _ | apply Drawn0.step)⟩
                                · rw [if_neg c18] at H
                                  have c18b0 : ((rdOf ByteArray.empty ((rd_T89 l0 x5_1).f1) x6_3).toList == (rdOf ByteArray.empty ((rd_T89 l1 x5_1).f1) x6_3).toList) = false := beq_eq_false_iff_ne.mpr c18
                                  have c18b1 : ((rdOf ByteArray.empty ((rd_T89 l0 x5_1).f1) x6_3).toList != (rdOf ByteArray.empty ((rd_T89 l1 x5_1).f1) x6_3).toList) = true := bne_iff_ne.mpr c18
                                  obtain rfl := Option.some.inj H
                                  have p152 : 0 ≤ (x5_1 : Int) := of_decide_eq_true (by first | (with_reducible assumption) | assumption)
                                  have q152 : x5_1 < (l0.length : Int) := of_decide_eq_true (by first | (with_reducible assumption) | assumption)
                                  obtain ⟨ad152, A152_1, c152_1, A152_2, c152_2, e152, hx152_0, hx152_1, hx152_2, hx152_3, hl152_1, hi152_1, hl152_2, hi152_2⟩ := at_T89 HR0.out x5_1 p152 q152
                                  cases e152
                                  have HR152_1 := Aside0.mk hi152_1
                                  have HC152_1 := Aside0.mk hl152_1
                                  clear hi152_1 hl152_1
                                  have HR152_2 := Aside0.mk hi152_2
                                  have HC152_2 := Aside0.mk hl152_2
                                  clear hi152_2 hl152_2
                                  replace p152 := eq_true p152
                                  replace q152 := eq_true q152
                                  have p153 : 0 ≤ (x5_1 : Int) := of_decide_eq_true (by first | (with_reducible assumption) | assumption)
                                  have q153 : x5_1 < (l0.length : Int) := of_decide_eq_true (by first | (with_reducible assumption) | assumption)
                                  obtain ⟨ad153, A153_1, c153_1, A153_2, c153_2, e153, hx153_0, hx153_1, hx153_2, hx153_3, hl153_1, hi153_1, hl153_2, hi153_2⟩ := at_T89 HR0.out x5_1 p153 q153
                                  obtain rfl : ad152 = ad153 := (by injection e153)
                                  have HR153_1 := Aside0.mk hi153_1
                                  have HC153_1 := Aside0.mk hl153_1
                                  clear hi153_1 hl153_1
                                  have HR153_2 := Aside0.mk hi153_2
                                  have HC153_2 := Aside0.mk hl153_2
                                  clear hi153_2 hl153_2
                                  replace p153 := eq_true p153
                                  replace q153 := eq_true q153
                                  have ea_ := Option.some.inj (hx152_1.symm.trans hx153_1)
                                  injection ea_ with ea_ en_ ec_
                                  subst ea_
                                  subst ec_
                                  clear en_
                                  have ea_ := Option.some.inj (hx152_2.symm.trans hx153_2)
                                  injection ea_ with ea_ en_ ec_
                                  subst ea_
                                  subst ec_
                                  clear en_
                                  have p154 : 0 ≤ (x6_3 : Int) := of_decide_eq_true (by first | (with_reducible assumption) | assumption)
                                  have q154 : x6_3 < (((rd_T89 l0 x5_1).f1).length : Int) := of_decide_eq_true (by first | (with_reducible assumption) | assumption)
                                  obtain ⟨ad154, e154, hx154_0⟩ := Kd.at_string HR153_1.out x6_3 p154 q154
                                  cases e154
                                  replace p154 := eq_true p154
                                  replace q154 := eq_true q154
                                  have p155 : 0 ≤ (x5_1 : Int) := of_decide_eq_true (by first | (with_reducible assumption) | assumption)
                                  have q155 : x5_1 < (l1.length : Int) := of_decide_eq_true (by first | (with_reducible assumption) | assumption)
                                  obtain ⟨ad155, A155_1, c155_1, A155_2, c155_2, e155, hx155_0, hx155_1, hx155_2, hx155_3, hl155_1, hi155_1, hl155_2, hi155_2⟩ := at_T89 HR1.out x5_1 p155 q155
                                  cases e155
                                  have HR155_1 := Aside0.mk hi155_1
                                  have HC155_1 := Aside0.mk hl155_1
                                  clear hi155_1 hl155_1
                                  have HR155_2 := Aside0.mk hi155_2
                                  have HC155_2 := Aside0.mk hl155_2
                                  clear hi155_2 hl155_2
                                  replace p155 := eq_true p155
                                  replace q155 := eq_true q155
                                  have p156 : 0 ≤ (x6_3 : Int) := of_decide_eq_true (by first | (with_reducible assumption) | assumption)
                                  have q156 : x6_3 < (((rd_T89 l1 x5_1).f1).length : Int) := of_decide_eq_true (by first | (with_reducible assumption) | assumption)
                                  obtain ⟨ad156, e156, hx156_0⟩ := Kd.at_string HR155_1.out x6_3 p156 q156
                                  cases e156
                                  replace p156 := eq_true p156
                                  replace q156 := eq_true q156
                                  go_wp2
                                  repeat (go_quiet (fail); try go_wp2)
                                  go_ret
                                  exact ⟨by first | rfl | (simp; done) | (simp [*]; done), by repeat (first | exact Drawn0.refl _ | apply Drawn0.step)⟩
                              · rw [if_neg c17] at H
                                exact absurd H (by simp)
                            · rw [if_neg c16] at H
                              exact absurd H (by simp)
                          · rw [if_neg c15] at H
                            exact absurd H (by simp)
                        · rw [if_neg c14] at H
                          have c14b0 : decide (x6_3 < (((rd_T89 l0 x5_1).f1).length : Int)) = false := decide_eq_false c14
                          clear c14
                          have H' := Aside0.mk H
                          clear H
                          have p152 : 0 ≤ (x5_1 : Int) := of_decide_eq_true (by first | (with_reducible assumption) | assumption)
                          have q152 : x5_1 < (l0.length : Int) := of_decide_eq_true (by first | (with_reducible assumption) | assumption)
                          obtain ⟨ad152, A152_1, c152_1, A152_2, c152_2, e152, hx152_0, hx152_1, hx152_2, hx152_3, hl152_1, hi152_1, hl152_2, hi152_2⟩ := at_T89 HR0.out x5_1 p152 q152
                          cases e152
                          have HR152_1 := Aside0.mk hi152_1
                          have HC152_1 := Aside0.mk hl152_1
                          clear hi152_1 hl152_1
                          have HR152_2 := Aside0.mk hi152_2
                          have HC152_2 := Aside0.mk hl152_2
                          clear hi152_2 hl152_2
                          replace p152 := eq_true p152
                          replace q152 := eq_true q152
                          go_wp2
                          repeat (go_quiet (fail); try go_wp2)
                          go_loopg [7] k3 (fun kq v7 w' => ∃ (x7_4 : Int), v7 = .int .i64 x7_4 ∧ Aside0 (spec_l3SameNodes.l2 kq l0 l1 x5_1 x7_4 = some r) ∧ Aside0 (kq ≤ k3) ∧ Drawn0 w w')
                          case atStart => exact ⟨(0), (by first | rfl | (simp; done) | (simp [*]; done)), H', ⟨Nat.le_refl _⟩, by repeat (first | exact Drawn0.refl _ | apply Drawn0.step)⟩
                          case round =>
                            clear H'
                            try clear c1
                            try clear p1
                            try clear q1
                            try clear hx1
                            try clear p2
                            try clear c3
                            try clear c3b0
                            try clear c3b1
                            try clear c3b2
                            try clear c4
                            try clear c4b0
                            try clear c6
                            try clear c6b0
                            try clear p6
                            try clear c7
                            try clear c7b0
                            try clear c8
                            try clear c8b0
                            try clear c8b1
                            try clear c8b2
                            try clear c9
                            try clear c9b0
                            try clear c9b1
                            try clear c10
                            try clear c10b0
                            try clear c10b1
                            try clear c10b2
                            try clear c11
                            try clear c12
                            try clear c12b0
                            try clear c13
                            try clear c13b0
                            try clear c14
                            try clear c14b0
                            try clear p14
                            try clear q14
                            try clear hx14
                            try clear c15
                            try clear c15b0
                            try clear p15
                            try clear q15
                            try clear hx15
                            try clear c16
                            try clear c16b0
                            try clear c17
                            try clear c17b0
                            try clear c18
                            try clear c18b0
                            try clear c18b1
                            try clear hx144_0
                            try clear hx144_1
                            try clear hx144_2
                            try clear hx144_3
                            try clear hx145_0
                            try clear hx145_1
                            try clear hx145_2
                            try clear hx145_3
                            try clear hx146_0
                            try clear hx146_1
                            try clear hx146_2
                            try clear hx146_3
                            try clear hx147_0
                            try clear hx147_1
                            try clear hx147_2
                            try clear hx147_3
                            try clear hx148_0
                            try clear hx148_1
                            try clear hx148_2
                            try clear hx148_3
                            try clear hx149_0
                            try clear hx149_1
                            try clear hx149_2
                            try clear hx149_3
                            try clear hx150_0
                            try clear hx150_1
                            try clear hx150_2
                            try clear hx150_3
                            try clear hx151_0
                            try clear hx151_1
                            try clear hx151_2
                            try clear hx151_3
                            try clear hx152_0
                            try clear hx152_1
                            try clear hx152_2
                            try clear hx152_3
                            try clear hx153_0
                            try clear hx153_1
                            try clear hx153_2
                            try clear hx153_3
                            try clear hx154_0
                            try clear hx155_0
                            try clear hx155_1
                            try clear hx155_2
                            try clear hx155_3
                            try clear hx156_0
                            try clear p1
                            try clear p144
                            try clear p145
                            try clear p146
                            try clear p147
                            try clear p148
                            try clear p149
                            try clear p150
                            try clear p151
                            try clear p152
                            try clear p153
                            try clear p154
                            try clear p155
                            try clear p156
                            try clear p2
                            try clear q1
                            try clear q144
                            try clear q145
                            try clear q146
                            try clear q147
                            try clear q148
                            try clear q149
                            try clear q150
                            try clear q151
                            try clear q152
                            try clear q153
                            try clear q154
                            try clear q155
                            try clear q156
                            obtain ⟨x7_4, rfl, HA, HK4, ⟨m4, rfl⟩⟩ := hrel
                            cases gk with
                            | zero => exact absurd HA.out (by simp [spec_l3SameNodes.l2])
                            | succ k4 =>
                              have H := HA.out
                              clear HA
                              simp only [spec_l3SameNodes.l2] at H
                              by_cases c19 : 0 ≤ x5_1
                              · rw [if_pos c19] at H
                                have c19b0 : decide (0 ≤ x5_1) = true := decide_eq_true c19
                                clear c19
                                by_cases c20 : x5_1 < (l0.length : Int)
                                · rw [if_pos c20] at H
                                  have c20b0 : decide (x5_1 < (l0.length : Int)) = true := decide_eq_true c20
                                  clear c20
                                  by_cases c21 : x7_4 < (((rd_T89 l0 x5_1).f2).length : Int)
                                  · rw [if_pos c21] at H
                                    have c21b0 : decide (x7_4 < (((rd_T89 l0 x5_1).f2).length : Int)) = true := decide_eq_true c21
                                    clear c21
                                    by_cases c22 : 0 ≤ x7_4
                                    · rw [if_pos c22] at H
                                      have c22b0 : decide (0 ≤ x7_4) = true := decide_eq_true c22
                                      clear c22
                                      by_cases c23 : x5_1 < (l1.length : Int)
                                      · rw [if_pos c23] at H
                                        have c23b0 : decide (x5_1 < (l1.length : Int)) = true := decide_eq_true c23
                                        clear c23
                                        by_cases c24 : x7_4 < (((rd_T89 l1 x5_1).f2).length : Int)
                                        · rw [if_pos c24] at H
                                          have c24b0 : decide (x7_4 < (((rd_T89 l1 x5_1).f2).length : Int)) = true := decide_eq_true c24
                                          clear c24
                                          by_cases c25 : (rd ((rd_T89 l0 x5_1).f2) x7_4) = (rd ((rd_T89 l1 x5_1).f2) x7_4)
                                          · rw [if_pos c25] at H
                                            have c25b0 : ((rd ((rd_T89 l0 x5_1).f2) x7_4) == (rd ((rd_T89 l1 x5_1).f2) x7_4)) = true := beq_iff_eq.mpr c25
                                            have c25b1 : ((rd ((rd_T89 l0 x5_1).f2) x7_4) != (rd ((rd_T89 l1 x5_1).f2) x7_4)) = false := bne_eq_false_iff_eq.mpr c25
                                            clear c25
                                            have H' := Aside0.mk H
                                            clear H
                                            have p157 : 0 ≤ (x5_1 : Int) := of_decide_eq_true (by first | (with_reducible assumption) | assumption)
                                            have q157 : x5_1 < (l0.length : Int) := of_decide_eq_true (by first | (with_reducible assumption) | assumption)
                                            obtain ⟨ad157, A157_1, c157_1, A157_2, c157_2, e157, hx157_0, hx157_1, hx157_2, hx157_3, hl157_1, hi157_1, hl157_2, hi157_2⟩ := at_T89 HR0.out x5_1 p157 q157
                                            obtain rfl : ad152 = ad157 := (by injection e157)
                                            have HR157_1 := Aside0.mk hi157_1
                                            have HC157_1 := Aside0.mk hl157_1
                                            clear hi157_1 hl157_1
                                            have HR157_2 := Aside0.mk hi157_2
                                            have HC157_2 := Aside0.mk hl157_2
                                            clear hi157_2 hl157_2
                                            replace p157 := eq_true p157
                                            replace q157 := eq_true q157
                                            have p158 : 0 ≤ (x5_1 : Int) := of_decide_eq_true (by first | (with_reducible assumption) | assumption)
                                            have q158 : x5_1 < (l0.length : Int) := of_decide_eq_true (by first | (with_reducible assumption) | assumption)
                                            obtain ⟨ad158, A158_1, c158_1, A158_2, c158_2, e158, hx158_0, hx158_1, hx158_2, hx158_3, hl158_1, hi158_1, hl158_2, hi158_2⟩ := at_T89 HR0.out x5_1 p158 q158
                                            obtain rfl : ad152 = ad158 := (by injection e158)
                                            have HR158_1 := Aside0.mk hi158_1
                                            have HC158_1 := Aside0.mk hl158_1
                                            clear hi158_1 hl158_1
                                            have HR158_2 := Aside0.mk hi158_2
                                            have HC158_2 := Aside0.mk hl158_2
                                            clear hi158_2 hl158_2
                                            replace p158 := eq_true p158
                                            replace q158 := eq_true q158
                                            have ea_ := Option.some.inj (hx157_1.symm.trans hx158_1)
                                            injection ea_ with ea_ en_ ec_
                                            subst ea_
                                            subst ec_
                                            clear en_
                                            have ea_ := Option.some.inj (hx157_2.symm.trans hx158_2)
                                            injection ea_ with ea_ en_ ec_
                                            subst ea_
                                            subst ec_
                                            clear en_
                                            have p159 : 0 ≤ (x7_4 : Int) := of_decide_eq_true (by first | (with_reducible assumption) | assumption)
                                            have q159 : x7_4 < (((rd_T89 l0 x5_1).f2).length : Int) := of_decide_eq_true (by first | (with_reducible assumption) | assumption)
                                            obtain ⟨ad159, e159, hx159_0⟩ := Kd.at_int HR158_2.out x7_4 p159 q159
                                            cases e159
                                            replace p159 := eq_true p159
                                            replace q159 := eq_true q159
                                            have p160 : 0 ≤ (x5_1 : Int) := of_decide_eq_true (by first | (with_reducible assumption) | assumption)
                                            have q160 : x5_1 < (l1.length : Int) := of_decide_eq_true (by first | (with_reducible assumption) | assumption)
                                            obtain ⟨ad160, A160_1, c160_1, A160_2, c160_2, e160, hx160_0, hx160_1, hx160_2, hx160_3, hl160_1, hi160_1, hl160_2, hi160_2⟩ := at_T89 HR1.out x5_1 p160 q160
                                            cases e160
                                            have HR160_1 := Aside0.mk hi160_1
                                            have HC160_1 := Aside0.mk hl160_1
                                            clear hi160_1 hl160_1
                                            have HR160_2 := Aside0.mk hi160_2
                                            have HC160_2 := Aside0.mk hl160_2
                                            clear hi160_2 hl160_2
                                            replace p160 := eq_true p160
                                            replace q160 := eq_true q160
                                            have p161 : 0 ≤ (x7_4 : Int) := of_decide_eq_true (by first | (with_reducible assumption) | assumption)
                                            have q161 : x7_4 < (((rd_T89 l1 x5_1).f2).length : Int) := of_decide_eq_true (by first | (with_reducible assumption) | assumption)
                                            obtain ⟨ad161, e161, hx161_0⟩ := Kd.at_int HR160_2.out x7_4 p161 q161
                                            cases e161
                                            replace p161 := eq_true p161
                                            replace q161 := eq_true q161
                                            go_wp2
                                            repeat (go_quiet (fail); try go_wp2)
                                            go_roundg k4
                                            case measure => have := HK1.out; have := HJ4.out; have := HK3.out; have := HK4.out; omega
                                            case rel => exact ⟨(wrap64 (x7_4 + 1)), (by first | rfl | (simp; done) | (simp [*]; done)), H', ⟨by have := HK1.out; have := HJ4.out; have := HK3.out; have := HK4.out; omega⟩, by repeat (first | exact Drawn0.refl _ | apply Drawn0.step)⟩
                                          · rw [if_neg c25] at H
                                            have c25b0 : ((rd ((rd_T89 l0 x5_1).f2) x7_4) == (rd ((rd_T89 l1 x5_1).f2) x7_4)) = false := beq_eq_false_iff_ne.mpr c25
                                            have c25b1 : ((rd ((rd_T89 l0 x5_1).f2) x7_4) != (rd ((rd_T89 l1 x5_1).f2) x7_4)) = true := bne_iff_ne.mpr c25
                                            obtain rfl := Option.some.inj H
                                            have p157 : 0 ≤ (x5_1 : Int) := of_decide_eq_true (by first | (with_reducible assumption) | assumption)
                                            have q157 : x5_1 < (l0.length : Int) := of_decide_eq_true (by first | (with_reducible assumption) | assumption)
                                            obtain ⟨ad157, A157_1, c157_1, A157_2, c157_2, e157, hx157_0, hx157_1, hx157_2, hx157_3, hl157_1, hi157_1, hl157_2, hi157_2⟩ := at_T89 HR0.out x5_1 p157 q157
                                            obtain rfl : ad152 = ad157 := (by injection e157)
                                            have HR157_1 := Aside0.mk hi157_1
                                            have HC157_1 := Aside0.mk hl157_1
                                            clear hi157_1 hl157_1
                                            have HR157_2 := Aside0.mk hi157_2
                                            have HC157_2 := Aside0.mk hl157_2
                                            clear hi157_2 hl157_2
                                            replace p157 := eq_true p157
                                            replace q157 := eq_true q157
                                            have p158 : 0 ≤ (x5_1 : Int) := of_decide_eq_true (by first | (with_reducible assumption) | assumption)
                                            have q158 : x5_1 < (l0.length : Int) := of_decide_eq_true (by first | (with_reducible assumption) | assumption)
                                            obtain ⟨ad158, A158_1, c158_1, A158_2, c158_2, e158, hx158_0, hx158_1, hx158_2, hx158_3, hl158_1, hi158_1, hl158_2, hi158_2⟩ := at_T89 HR0.out x5_1 p158 q158
                                            obtain rfl : ad152 = ad158 := (by injection e158)
                                            have HR158_1 := Aside0.mk hi158_1
                                            have HC158_1 := Aside0.mk hl158_1
                                            clear hi158_1 hl158_1
                                            have HR158_2 := Aside0.mk hi158_2
                                            have HC158_2 := Aside0.mk hl158_2
                                            clear hi158_2 hl158_2
                                            replace p158 := eq_true p158
                                            replace q158 := eq_true q158
                                            have ea_ := Option.some.inj (hx157_1.symm.trans hx158_1)
                                            injection ea_ with ea_ en_ ec_
                                            subst ea_
                                            subst ec_
                                            clear en_
                                            have ea_ := Option.some.inj (hx157_2.symm.trans hx158_2)
                                            injection ea_ with ea_ en_ ec_
                                            subst ea_
                                            subst ec_
                                            clear en_
                                            have p159 : 0 ≤ (x7_4 : Int) := of_decide_eq_true (by first | (with_reducible assumption) | assumption)
                                            have q159 : x7_4 < (((rd_T89 l0 x5_1).f2).length : Int) := of_decide_eq_true (by first | (with_reducible assumption) | assumption)
                                            obtain ⟨ad159, e159, hx159_0⟩ := Kd.at_int HR158_2.out x7_4 p159 q159
                                            cases e159
                                            replace p159 := eq_true p159
                                            replace q159 := eq_true q159
                                            have p160 : 0 ≤ (x5_1 : Int) := of_decide_eq_true (by first | (with_reducible assumption) | assumption)
                                            have q160 : x5_1 < (l1.length : Int) := of_decide_eq_true (by first | (with_reducible assumption) | assumption)
                                            obtain ⟨ad160, A160_1, c160_1, A160_2, c160_2, e160, hx160_0, hx160_1, hx160_2, hx160_3, hl160_1, hi160_1, hl160_2, hi160_2⟩ := at_T89 HR1.out x5_1 p160 q160
                                            cases e160
                                            have HR160_1 := Aside0.mk hi160_1
                                            have HC160_1 := Aside0.mk hl160_1
                                            clear hi160_1 hl160_1
                                            have HR160_2 := Aside0.mk hi160_2
                                            have HC160_2 := Aside0.mk hl160_2
                                            clear hi160_2 hl160_2
                                            replace p160 := eq_true p160
                                            replace q160 := eq_true q160
                                            have p161 : 0 ≤ (x7_4 : Int) := of_decide_eq_true (by first | (with_reducible assumption) | assumption)
                                            have q161 : x7_4 < (((rd_T89 l1 x5_1).f2).length : Int) := of_decide_eq_true (by first | (with_reducible assumption) | assumption)
                                            obtain ⟨ad161, e161, hx161_0⟩ := Kd.at_int HR160_2.out x7_4 p161 q161
                                            cases e161
                                            replace p161 := eq_true p161
                                            replace q161 := eq_true q161
                                            go_wp2
                                            repeat (go_quiet (fail); try go_wp2)
                                            go_ret
                                            exact ⟨by first | rfl | (simp; done) | (simp [*]; done), by repeat (first | exact Drawn0.refl _ | apply Drawn0.step)⟩
                                        · rw [if_neg c24] at H
                                          exact absurd H (by simp)
                                      · rw [if_neg c23] at H
                                        exact absurd H (by simp)
                                    · rw [if_neg c22] at H
                                      exact absurd H (by simp)
                                  · rw [if_neg c21] at H
                                    have c21b0 : decide (x7_4 < (((rd_T89 l0 x5_1).f2).length : Int)) = false := decide_eq_false c21
                                    clear c21
                                    have H' := Aside0.mk H
                                    clear H
                                    have p157 : 0 ≤ (x5_1 : Int) := of_decide_eq_true (by first | (with_reducible assumption) | assumption)
                                    have q157 : x5_1 < (l0.length : Int) := of_decide_eq_true (by first | (with_reducible assumption) | assumption)
                                    obtain ⟨ad157, A157_1, c157_1, A157_2, c157_2, e157, hx157_0, hx157_1, hx157_2, hx157_3, hl157_1, hi157_1, hl157_2, hi157_2⟩ := at_T89 HR0.out x5_1 p157 q157
                                    obtain rfl : ad152 = ad157 := (by injection e157)
                                    have HR157_1 := Aside0.mk hi157_1
                                    have HC157_1 := Aside0.mk hl157_1
                                    clear hi157_1 hl157_1
                                    have HR157_2 := Aside0.mk hi157_2
                                    have HC157_2 := Aside0.mk hl157_2
                                    clear hi157_2 hl157_2
                                    replace p157 := eq_true p157
                                    replace q157 := eq_true q157
                                    go_wp2
                                    repeat (go_quiet (fail); try go_wp2)
                                    go_roundg k4
                                    case measure => have := HK1.out; have := HJ4.out; have := HK3.out; have := HK4.out; omega
                                    case rel => exact ⟨(wrap64 (x5_1 + 1)), (by first | rfl | (simp; done) | (simp [*]; done)), H', ⟨by have := HK1.out; have := HJ4.out; have := HK3.out; have := HK4.out; omega⟩, by repeat (first | exact Drawn0.refl _ | apply Drawn0.step)⟩
                                · rw [if_neg c20] at H
                                  exact absurd H (by simp)
                              · rw [if_neg c19] at H
                                exact absurd H (by simp)
                      · rw [if_neg c13] at H
                        exact absurd H (by simp)
                    · rw [if_neg c12] at H
                      exact absurd H (by simp)
        · rw [if_neg c4] at H
          have c4b0 : decide (x5_1 < (l0.length : Int)) = false := decide_eq_false c4
          clear c4
          obtain rfl := Option.some.inj H
          go_wp2
          repeat (go_quiet (fail); try go_wp2)
          go_ret
          exact ⟨by first | rfl | (simp; done) | (simp [*]; done), by repeat (first | exact Drawn0.refl _ | apply Drawn0.step)⟩
  · rw [if_neg c3] at H
    have c3b0 : ((l0.length : Int) == (l1.length : Int)) = false := beq_eq_false_iff_ne.mpr c3
    have c3b1 : ((l0.length : Int) != (l1.length : Int)) = true := bne_iff_ne.mpr c3
    have c3b2 : (l0.length == l1.length) = false := by first | simpa using c3 | (simp at c3 ⊢; omega)
    obtain rfl := Option.some.inj H
    go_enter Try.func48, Try.ntmps48
    go_wp2
    repeat (go_quiet (fail); try go_wp2)
    go_ret
    exact ⟨by first | rfl | (simp; done) | (simp [*]; done), by repeat (first | exact Drawn0.refl _ | apply Drawn0.step)⟩

end Go.Proofs.Ytnfaiblhjgmjgaa.PFnTree
