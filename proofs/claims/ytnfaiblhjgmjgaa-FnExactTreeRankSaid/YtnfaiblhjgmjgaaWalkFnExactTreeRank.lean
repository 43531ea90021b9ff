/-
  FnExactTreeRank's walk.
-/
import Derived.Test.YtnfaiblhjgmjgaaOpenTree
import Derived.Test.YtnfaiblhjgmjgaaSize
import Derived.Test.YtnfaiblhjgmjgaaTo
import Derived.Test.YtnfaiblhjgmjgaaEq
import Derived.Test.YtnfaiblhjgmjgaaSpecRank
import Derived.Test.YtnfaiblhjgmjgaaTreeRank
import Derived.Deep.RegionHeld3
namespace Go.Proofs.Ytnfaiblhjgmjgaa
open Go.RowKit Go.Proofs.YtnfaiblhjgmjgaaW.PrintWords

theorem rank_same (ns : List TN) (key : ByteArray) : rankS ns key = rankP ns key := by
  unfold rankS rankP
  cases h : specX ns with
  | none => rw [spec_root_none ns h]
  | some x =>
    obtain ⟨h1, _, h3⟩ := spec_root ns x h
    rw [h1]
    simp only
    rw [h3]

set_option maxHeartbeats 1000000 in
set_option maxRecDepth 100000 in
theorem lawWalk_FnExactTreeRank (A : Option Addr) (c : Nat) (ns : List PFnTree.S89) (key : ByteArray) (w : World) (hc : ns.length ≤ c) (hns : Kd.C PFnTree.k89 w A ns.length ns) (hq : ∀ x ∈ ns, ∀ s ∈ x.f1, s.size ≤ 9223372036854775807) (hkey : key.size ≤ 140737488351232) :
    Calls Try.prog 4 #[.agg #[.slice A ns.length c], .string key] w (fun e w' => e = .returned (.bool true) ∧ Below w.heap.size w w') := by
  obtain ⟨W1, hW1⟩ : ∃ W1 : World, W1 = w.alloc (.cells #[.slice A ns.length c] 24) := ⟨_, rfl⟩
  have hb1 : Below w.heap.size w W1 := by rw [hW1]; exact below_alloc (Below.refl _ _) _
  have X1 : W1.heap[w.heap.size]? = some (.cells #[.slice A ns.length c] 24 (0, 0)) := by rw [hW1]; exact blk_new _ _
  have HX1 := Aside0.mk X1
  have HB1 := Aside0.mk hb1
  have HNS := Aside0.mk (Kd.C_below hns hb1)
  have HC := Aside0.mk (szTree_any A c ns 1048576 W1 HNS.out hq (by omega) (by omega))
  have HW1 := Aside0.mk hW1
  have x0 : W1.cell? ⟨w.heap.size, 0, none⟩ = some (.slice A ns.length c) := (blkcell X1 0).trans rfl
  clear hns hq hW1 hb1 X1 hc
  by_cases hbig : 1048576 < key.size
  · have k1 : decide ((1048576 : Int) < (key.size : Int)) = true := decide_eq_true (by omega)
    have k2 : decide (1048576 < key.size) = true := decide_eq_true hbig
    clear hbig
    go_enter Try.func4, Try.ntmps4
    go_wp2
    go_ret
    rw [← HW1.out]
    exact ⟨rfl, HB1.out⟩
  have k1 : decide ((1048576 : Int) < (key.size : Int)) = false := decide_eq_false (by omega)
  have k2 : decide (1048576 < key.size) = false := decide_eq_false hbig
  clear hbig
  go_enter Try.func4, Try.ntmps4
  go_wp2_with fail
  rw [← HW1.out]
  refine HC.out.mono ?_
  rintro e w2 ⟨r, rfl, hb2, _, _, hP⟩
  have HB2 := Aside0.mk hb2
  by_cases hr : r < 0
  · clear hP hb2
    go_wp2
    go_ret
    exact ⟨rfl, below_step HB1.out HB2.out⟩
  · obtain ⟨hl, hnd⟩ := hP (by omega)
    have hl2 : ns.length ≤ 1048576 := by omega
    have hnd2 : ∀ t ∈ ns, t.f1.length ≤ 1048576 ∧ t.f2.length ≤ 1048576 := fun t ht => by have := hnd t ht; exact ⟨by have := this.1; omega, by have := this.2.1; omega⟩
    have HL := Aside0.mk hl2
    have HND := Aside0.mk hnd2
    have HT := Aside0.mk (fun (W : World) (hb : Below W1.heap.size W1 W) => toTree_any A c ns W (Kd.C_below HNS.out hb) HL.out HND.out)
    have d1 : decide (r < 0) = false := decide_eq_false hr
    have x2 : w2.cell? ⟨w.heap.size, 0, none⟩ = some (.slice A ns.length c) := (blkcell (blk_below HX1.out hb2) 0).trans rfl
    clear hP hb2 hl hnd hl2 hnd2 x0
    go_wp2_with fail
    refine (HT.out _ HB2.out).mono ?_
    rintro e w3 ⟨B, d, rfl, hr3, hb3⟩
    obtain ⟨B', d', e3, l3, c3⟩ := Kd.R_reads hr3
    obtain ⟨rfl, rfl⟩ : B = B' ∧ d = d' := by simpa using e3
    have HV := Aside0.mk (specRank_any B d ns key w3 c3 l3)
    have HB3 := Aside0.mk (below_step HB2.out hb3)
    clear hr3 hb3 e3 l3 c3
    go_wp2_with fail
    refine HV.out.mono ?_
    rintro e w4 ⟨rfl, hb4⟩
    rw [rank_same]
    have HB4 := Aside0.mk (below_step HB3.out hb4)
    have x4 : w4.cell? ⟨w.heap.size, 0, none⟩ = some (.slice A ns.length c) := (blkcell (blk_below HX1.out HB4.out) 0).trans rfl
    obtain ⟨bv, hbv⟩ : ∃ bv, rankP ns key = bv := ⟨_, rfl⟩
    rw [hbv]
    have HBV := Aside0.mk hbv
    clear hb4 hbv x2
    go_wp2_with fail
    refine (HT.out _ HB4.out).mono ?_
    rintro e w5 ⟨B2, d2, rfl, hr5, hb5⟩
    obtain ⟨B', d', e5, l5, c5⟩ := Kd.R_reads hr5
    obtain ⟨rfl, rfl⟩ : B2 = B' ∧ d2 = d' := by simpa using e5
    have HB5 := Aside0.mk (below_step HB4.out hb5)
    have HC5 := Aside0.mk c5
    have HI := Aside0.mk (treeRank_any B2 d2 ns key (w5.alloc (.cells #[.slice B2 ns.length d2] 29)) (Kd.C_below c5 (below_alloc (Below.refl _ _) _)))
    have y5 := blk_new w5 (.cells #[.slice B2 ns.length d2] 29)
    have HY5 := Aside0.mk y5
    clear hr5 hb5 e5 l5 c5 y5 x4
    go_wp2_with fail
    refine HI.out.mono ?_
    rintro e w7 ⟨rfl, hb7⟩
    rw [HBV.out]
    have HB57 := Aside0.mk (below_step (below_alloc (Below.refl w5.heap.size w5) _) hb7)
    have HB7 := Aside0.mk (below_step HB5.out HB57.out)
    have Y7 := Aside0.mk (blk_below HY5.out hb7)
    clear hb7
    go_wp2_with fail
    have KP : ∀ W', Below w7.heap.size w7 W' → (W'.cell? ⟨w.heap.size, 0, none⟩ = some (.slice A ns.length c) ∧ W'.cell? ⟨w5.heap.size, 0, none⟩ = some (.slice B2 ns.length d2)) ∧ Below w7.heap.size w7 W' := fun W' hb => ⟨⟨(blkcell (blk_below (blk_below HX1.out HB7.out) hb) 0).trans rfl, (blkcell (blk_below Y7.out hb) 0).trans rfl⟩, hb⟩
    have HKP := Aside0.mk KP
    have HB0 := Aside0.mk (Below.refl w7.heap.size w7)
    have HT7 := Aside0.mk (HT.out w7.drew (below_drew HB7.out))
    clear KP
    go_region_held3 (fun W' => (W'.cell? ⟨w.heap.size, 0, none⟩ = some (.slice A ns.length c) ∧ W'.cell? ⟨w5.heap.size, 0, none⟩ = some (.slice B2 ns.length d2)) ∧ Below w7.heap.size w7 W')
      ((refine HKP.out _ ?_; first | exact HB9.out | exact HB8.out | exact below_drew HB0.out))
      (first | (go_at_call 9; refine HT7.out.mono ?_; rintro e w8 ⟨B3, d3, rfl, hr8, hb8⟩; obtain ⟨B', d', e8, l8, c8⟩ := Kd.R_reads hr8; injection e8 with q1 q2 q3; subst q1 q3; have HB8 := Aside0.mk (below_step (below_drew HB0.out) hb8); have HEQ := Aside0.mk (eqTree_same B2 d2 B3 d3 ns w8 (Kd.C_below (Kd.C_below HC5.out HB57.out) HB8.out) c8); clear hr8 hb8 l8 c8) | (go_at_call 11; refine HEQ.out.mono ?_; rintro e w9 ⟨rfl, hb9⟩; have HB9 := Aside0.mk (below_step HB8.out hb9); clear hb9))
    all_goals
      go_wp2
      go_ret
      exact ⟨rfl, below_step HB1.out (below_step HB7.out HB9.out)⟩
end Go.Proofs.Ytnfaiblhjgmjgaa
