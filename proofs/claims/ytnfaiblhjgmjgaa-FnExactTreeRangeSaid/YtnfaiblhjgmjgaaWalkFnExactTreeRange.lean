/-
  FnExactTreeRange's walk.
-/
import Derived.Test.YtnfaiblhjgmjgaaOpenTree
import Derived.Test.YtnfaiblhjgmjgaaSize
import Derived.Test.YtnfaiblhjgmjgaaTo
import Derived.Test.YtnfaiblhjgmjgaaEq
import Derived.Test.YtnfaiblhjgmjgaaSpecRange
import Derived.Test.YtnfaiblhjgmjgaaMarkTree
import Derived.Deep.RegionHeld3
namespace Go.Proofs.Ytnfaiblhjgmjgaa
open Go.RowKit Go.Proofs.YtnfaiblhjgmjgaaW.PrintWords

/-- A row of strings, read. -/
theorem str_reads {w : World} {base e : Nat} {ok : Nat → Prop} {v : Value} {xs : List ByteArray} (h : Kd.R Kd.string e w base ok v xs) : ∃ A c, v = .slice A xs.length c ∧ xs.length ≤ c ∧ Kd.C Kd.string w A xs.length xs := Kd.R_reads h

set_option maxHeartbeats 1000000 in
set_option maxRecDepth 100000 in
theorem lawWalk_FnExactTreeRange (A : Option Addr) (c : Nat) (ns : List PFnTree.S89) (lo hi : ByteArray) (w : World) (hc : ns.length ≤ c) (hns : Kd.C PFnTree.k89 w A ns.length ns) (hq : ∀ x ∈ ns, ∀ s ∈ x.f1, s.size ≤ 9223372036854775807) (hlo : lo.size ≤ 140737488351232) (hhi : hi.size ≤ 140737488351232) :
    Calls Try.prog 5 #[.agg #[.slice A ns.length c], .string lo, .string hi] w (fun e w' => e = .returned (.bool true) ∧ Below w.heap.size w w') := by
  obtain ⟨W1, hW1⟩ : ∃ W1 : World, W1 = w.alloc (.cells #[.slice A ns.length c] 24) := ⟨_, rfl⟩
  have hb1 : Below w.heap.size w W1 := by rw [hW1]; exact below_alloc (Below.refl _ _) _
  have X1 : W1.heap[w.heap.size]? = some (.cells #[.slice A ns.length c] 24 (0, 0)) := by rw [hW1]; exact blk_new _ _
  have HX1 := Aside0.mk X1
  have HB1 := Aside0.mk hb1
  have HNS := Aside0.mk (Kd.C_below hns hb1)
  have HC := Aside0.mk (szTree_any A c ns 1048576 W1 HNS.out hq (by omega) (by omega))
  have HW1 := Aside0.mk hW1
  have x0 : W1.cell? ⟨w.heap.size, 0, none⟩ = some (.slice A ns.length c) := (blkcell X1 0).trans rfl
  clear hns hq hW1 hb1 X1 hc
  by_cases hblo : 1048576 < lo.size
  · have k1 : decide ((1048576 : Int) < (lo.size : Int)) = true := decide_eq_true (by omega)
    have k2 : decide (1048576 < lo.size) = true := decide_eq_true hblo
    clear hblo
    go_enter Try.func5, Try.ntmps5
    go_wp2
    go_ret
    rw [← HW1.out]
    exact ⟨rfl, HB1.out⟩
  have lo1 : decide ((1048576 : Int) < (lo.size : Int)) = false := decide_eq_false (by omega)
  have lo2 : decide (1048576 < lo.size) = false := decide_eq_false hblo
  clear hblo
  by_cases hbhi : 1048576 < hi.size
  · have k1 : decide ((1048576 : Int) < (hi.size : Int)) = true := decide_eq_true (by omega)
    have k2 : decide (1048576 < hi.size) = true := decide_eq_true hbhi
    clear hbhi
    go_enter Try.func5, Try.ntmps5
    go_wp2
    go_ret
    rw [← HW1.out]
    exact ⟨rfl, HB1.out⟩
  have hi1 : decide ((1048576 : Int) < (hi.size : Int)) = false := decide_eq_false (by omega)
  have hi2 : decide (1048576 < hi.size) = false := decide_eq_false hbhi
  clear hbhi
  go_enter Try.func5, Try.ntmps5
  go_wp2_with fail
  rw [← HW1.out]
  refine HC.out.mono ?_
  rintro e w2 ⟨r, rfl, hb2, _, _, hP⟩
  have HB2 := Aside0.mk hb2
  by_cases hr : r < 0
  · clear hP hb2
    go_wp2
    go_ret
    exact ⟨rfl, below_step HB1.out HB2.out⟩
  · obtain ⟨hl, hnd⟩ := hP (by omega)
    have hl2 : ns.length ≤ 1048576 := by omega
    have hnd2 : ∀ t ∈ ns, t.f1.length ≤ 1048576 ∧ t.f2.length ≤ 1048576 := fun t ht => by have := hnd t ht; exact ⟨by have := this.1; omega, by have := this.2.1; omega⟩
    have HL := Aside0.mk hl2
    have HND := Aside0.mk hnd2
    have HT := Aside0.mk (fun (W : World) (hb : Below W1.heap.size W1 W) => toTree_any A c ns W (Kd.C_below HNS.out hb) HL.out HND.out)
    have d1 : decide (r < 0) = false := decide_eq_false hr
    have x2 : w2.cell? ⟨w.heap.size, 0, none⟩ = some (.slice A ns.length c) := (blkcell (blk_below HX1.out hb2) 0).trans rfl
    clear hP hb2 hl hnd hl2 hnd2 x0
    go_wp2_with fail
    refine (HT.out _ HB2.out).mono ?_
    rintro e w3 ⟨B, d, rfl, hr3, hb3⟩
    obtain ⟨B', d', e3, l3, c3⟩ := Kd.R_reads hr3
    obtain ⟨rfl, rfl⟩ : B = B' ∧ d = d' := by simpa using e3
    have HV := Aside0.mk (specRange_any B d ns lo hi w3 c3 l3)
    have HB3 := Aside0.mk (below_step HB2.out hb3)
    clear hr3 hb3 e3 l3 c3
    go_wp2_with fail
    refine HV.out.mono ?_
    rintro e w4 ⟨v8, rfl, hr8, hb4⟩
    rw [range_same] at hr8
    have hfew := range_few ns lo hi
    obtain ⟨L, hL⟩ : ∃ L, rangeP ns lo hi = L := ⟨_, rfl⟩
    rw [hL] at hr8 hfew
    have HLL := Aside0.mk hL
    have HFEW := Aside0.mk hfew
    obtain ⟨A8, c8, e8, _, C8⟩ := str_reads hr8
    subst e8
    have HB4 := Aside0.mk (below_step HB3.out hb4)
    have HC8 := Aside0.mk C8
    have x4 : w4.cell? ⟨w.heap.size, 0, none⟩ = some (.slice A ns.length c) := (blkcell (blk_below HX1.out HB4.out) 0).trans rfl
    have HTS := Aside0.mk (toTree_S A c ns w4 (Kd.C_below HNS.out HB4.out) HL.out HND.out)
    clear hb4 x2 hL hfew hr8 C8
    go_wp2_with fail
    refine HTS.out.mono ?_
    rintro e w5 ⟨B2, d2, rfl, hr5, hb5⟩
    have hr5r := Kd.S_R hr5
    obtain ⟨B', d', e5, l5, c5⟩ := Kd.R_reads hr5r
    obtain ⟨rfl, rfl⟩ : B2 = B' ∧ d2 = d' := by simpa using e5
    have HB45 := Aside0.mk hb5
    have HB5 := Aside0.mk (below_step HB4.out hb5)
    have HC5 := Aside0.mk c5
    have HS5 := Aside0.mk (Kd.S_mono (Kd.S_bound hr5) (ok' := fun k => w4.heap.size ≤ k ∧ k < w5.heap.size) (fun k hk => ⟨hk.2.1, hk.2.2.1⟩))
    obtain ⟨WB, hWB⟩ : ∃ WB : World, w5.alloc (.cells #[.slice B2 ns.length d2] 29) = WB := ⟨_, rfl⟩
    have hbB : Below w5.heap.size w5 WB := by rw [← hWB]; exact below_alloc (Below.refl _ _) _
    have hsB : WB.heap.size = w5.heap.size + 1 := by rw [← hWB, World.size_alloc]
    have y5 : WB.heap[w5.heap.size]? = some (.cells #[.slice B2 ns.length d2] 29 (0, 0)) := by rw [← hWB]; exact blk_new _ _
    have HI := Aside0.mk (treeRange_any B2 d2 ns lo hi WB (Kd.C_below c5 hbB))
    have HY5 := Aside0.mk y5
    have HBB := Aside0.mk hbB
    have HSB := Aside0.mk hsB
    have HWB := Aside0.mk hWB
    have yB : WB.cell? ⟨w5.heap.size, 0, none⟩ = some (.slice B2 ns.length d2) := (blkcell y5 0).trans rfl
    clear hr5 hr5r hb5 e5 l5 c5 y5 x4 hWB hbB hsB
    go_wp2_with fail
    rw [HWB.out]
    refine HI.out.mono ?_
    rintro e w7 ⟨v10, rfl, hr10, hb7⟩
    rw [HLL.out] at hr10
    obtain ⟨A10, c10, e10, _, C10⟩ := str_reads hr10
    subst e10
    have HR10 := Aside0.mk (Kd.R_mono (Kd.R_bound hr10) (ok' := fun k => WB.heap.size ≤ k) (fun k hk => hk.2.1))
    have HB57 := Aside0.mk (below_step HBB.out hb7)
    have HB47 := Aside0.mk (below_step HB45.out HB57.out)
    have HB7 := Aside0.mk (below_step HB5.out HB57.out)
    have Y7 := Aside0.mk (blk_below HY5.out hb7)
    have HC10 := Aside0.mk C10
    have HE1 := Aside0.mk (eqStringS_same A10 c10 A8 c8 L w7 C10 (Kd.C_below HC8.out HB47.out))
    clear hr10 hb7 C10 yB
    go_wp2_with fail
    refine HE1.out.mono ?_
    rintro e w8 ⟨rfl, hb8⟩
    have HB78 := Aside0.mk hb8
    have HB8 := Aside0.mk (below_step HB7.out hb8)
    have HB48 := Aside0.mk (below_step HB47.out hb8)
    have HB58 := Aside0.mk (below_step HB57.out hb8)
    have Y8 := Aside0.mk (blk_below Y7.out hb8)
    have R8 := Aside0.mk (Kd.R_below HR10.out hb8)
    clear hb8
    go_wp2_with fail
    have KP : ∀ W', Below w8.heap.size w8 W' → (W'.cell? ⟨w.heap.size, 0, none⟩ = some (.slice A ns.length c) ∧ W'.cell? ⟨w5.heap.size, 0, none⟩ = some (.slice B2 ns.length d2)) ∧ Below w8.heap.size w8 W' := fun W' hb => ⟨⟨(blkcell (blk_below (blk_below HX1.out HB8.out) hb) 0).trans rfl, (blkcell (blk_below Y8.out hb) 0).trans rfl⟩, hb⟩
    have HKP := Aside0.mk KP
    have HB0 := Aside0.mk (Below.refl w8.heap.size w8)
    have HT8 := Aside0.mk (HT.out w8.drew (below_drew HB8.out))
    clear KP
    go_region_held3 (fun W' => (W'.cell? ⟨w.heap.size, 0, none⟩ = some (.slice A ns.length c) ∧ W'.cell? ⟨w5.heap.size, 0, none⟩ = some (.slice B2 ns.length d2)) ∧ Below w8.heap.size w8 W')
      ((refine HKP.out _ ?_; first | exact HB10.out | exact HB9.out | exact below_drew HB0.out))
      (first | (go_at_call 9; refine HT8.out.mono ?_; rintro e w9 ⟨B3, d3, rfl, hr9, hb9⟩; obtain ⟨B', d', e9, l9, c9⟩ := Kd.R_reads hr9; injection e9 with q1 q2 q3; subst q1 q3; have HB9 := Aside0.mk (below_step (below_drew HB0.out) hb9); have HEQ := Aside0.mk (eqTree_same B2 d2 B3 d3 ns w9 (Kd.C_below (Kd.C_below HC5.out HB58.out) HB9.out) c9); clear hr9 hb9 l9 c9) | (go_at_call 11; refine HEQ.out.mono ?_; rintro e w10 ⟨rfl, hb10⟩; have HB10 := Aside0.mk (below_step HB9.out hb10); clear hb10))
    all_goals
      have HB4x := Aside0.mk (below_step HB48.out HB10.out)
      have HB5x := Aside0.mk (below_step HB58.out HB10.out)
      have Y10 := Aside0.mk (blk_below Y8.out HB10.out)
      have R10 := Aside0.mk (Kd.R_below R8.out HB10.out)
      have y10 : w10.cell? ⟨w5.heap.size, 0, none⟩ = some (.slice B2 ns.length d2) := (blkcell Y10.out 0).trans rfl
      have HMK := Aside0.mk (markTree_any w4 w10 _ B2 d2 ns 1 HB4x.out (Kd.S_below HS5.out HB5x.out) HL.out HND.out (by omega))
      go_wp2_with fail
      refine HMK.out.mono ?_
      rintro e w11 ⟨r1, rfl, hk11, hb11⟩
      have HB11 := Aside0.mk hb11
      have HB1x := Aside0.mk (below_step HB4.out hb11)
      have R11 := Aside0.mk (Kd.R_kept R10.out hk11 (fun k h1 h2 => by have := HSB.out; omega))
      obtain ⟨A', c', e', _, C11⟩ := str_reads R11.out
      injection e' with e1 e2 e3
      subst e1 e3
      have HC11 := Aside0.mk C11
      have HE2 := Aside0.mk (eqStringS_same A10 c10 A8 c8 L w11 C11 (Kd.C_below HC8.out hb11))
      have n1 : decide ((r1 : Int) < 0) = false := decide_eq_false (by omega)
      clear hk11 hb11 C11 e2 y10
      go_wp2_with fail
      refine HE2.out.mono ?_
      rintro e w12 ⟨rfl, hb12⟩
      have HB12 := Aside0.mk (below_step HB11.out hb12)
      have R12 := Aside0.mk (Kd.R_tight rfl (Kd.R_lower (Kd.R_below R11.out hb12) (Nat.le_trans HB45.out.size HBB.out.size)))
      have HM := Aside0.mk (PFnTree.laws_markStringS.calls (L.length + 101) _ _ L ((1 : Nat) : Int) _ _ w4 w12 HB12.out R12.out (markS_f L 1 (by have := HFEW.out; omega)))
      clear hb12 n1
      go_wp2_with fail
      refine HM.out.mono ?_
      rintro e w13 ⟨rfl, hr13, hb13, _⟩
      obtain ⟨A', c', e', l13, C13⟩ := str_reads hr13
      injection e' with e1 e2 e3
      subst e1 e3
      have HB13 := Aside0.mk hb13
      have HH := Aside0.mk (PFnTree.laws_heldStringS.calls (L.length + 101) A10 c10 (marks 1 L.length) ((1 : Nat) : Int) _ w13 C13 l13 (heldS_f L.length 1 (by have := HFEW.out; omega)))
      rw [marks_len] at HH
      clear hr13 hb13 e2 l13 C13
      obtain ⟨m, hm⟩ : ∃ m : Nat, 1 + L.length = m := ⟨_, rfl⟩
      rw [hm] at HH ⊢
      clear hm
      go_wp2_with fail
      refine HH.out.mono ?_
      rintro e w14 ⟨rfl, hb14⟩
      have HB14 := Aside0.mk (below_step HB13.out hb14)
      have HBW := Aside0.mk (below_step HB4.out HB14.out)
      have n2 : decide ((m : Int) < 0) = false := decide_eq_false (by omega)
      have x14 : w14.cell? ⟨w.heap.size, 0, none⟩ = some (.slice A ns.length c) := (blkcell (blk_below HX1.out HBW.out) 0).trans rfl
      clear hb14
      go_wp2_with fail
      refine (HT.out _ HBW.out).mono ?_
      rintro e w15 ⟨B4, d4, rfl, hr15, hb15⟩
      obtain ⟨B', d', e15, l15, c15⟩ := Kd.R_reads hr15
      injection e15 with q1 q2 q3
      subst q1 q3
      have HB15 := Aside0.mk (below_step HB14.out hb15)
      have HI2 := Aside0.mk (treeRange_any B4 d4 ns lo hi w15 c15)
      clear hr15 hb15 l15 c15 x14 n2
      go_wp2_with fail
      refine HI2.out.mono ?_
      rintro e w16 ⟨v16, rfl, hr16, hb16⟩
      rw [HLL.out] at hr16
      obtain ⟨A16, c16, e16, _, C16⟩ := str_reads hr16
      subst e16
      have HB16 := Aside0.mk (below_step HB15.out hb16)
      have HE3 := Aside0.mk (eqStringS_same A16 c16 A8 c8 L w16 C16 (Kd.C_below HC8.out HB16.out))
      clear hr16 hb16 C16
      go_wp2_with (go_at_call 16; refine HE3.out.mono ?_; rintro e w17 ⟨rfl, hb17⟩; have HB17 := Aside0.mk hb17; clear hb17)
      go_ret
      exact ⟨rfl, below_step HB1.out (below_step HB4.out (below_step HB16.out HB17.out))⟩
end Go.Proofs.Ytnfaiblhjgmjgaa
