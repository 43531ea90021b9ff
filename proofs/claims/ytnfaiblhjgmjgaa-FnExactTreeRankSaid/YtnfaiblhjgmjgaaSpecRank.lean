/-
  TreeRank of the reference.
-/
import Derived.Test.YtnfaiblhjgmjgaaGood
import Derived.Test.YtnfaiblhjgmjgaaOf
namespace Go.Proofs.Ytnfaiblhjgmjgaa
open Go.RowKit Go.Proofs.YtnfaiblhjgmjgaaW.PrintWords

def rankS (ns : List TN) (key : ByteArray) : Nat := match specX ns with
  | none => 0
  | some x => under (keysX x) key
theorem under_take (l : List ByteArray) (key : ByteArray) (i : Nat) (x : ByteArray) (h : l[i]? = some x) : under (l.take (i + 1)) key = under (l.take i) key + if ltB x key then 1 else 0 := by
  rw [List.take_add_one, h, under_append]
  show _ + under [x] key = _
  rw [under_cons]
  simp [under]

set_option maxHeartbeats 1000000 in
set_option maxRecDepth 100000 in
theorem specRank_yes (A : Option Addr) (c : Nat) (ns : List TN) (key : ByteArray) (w : World) (x : LX) (hfew : (keysX x).length ≤ 20000) (hsz : sizeX x ≤ 5000)
    (HC : Aside0 (Calls Try.prog 28 #[.agg #[.slice A ns.length c]] (w.alloc (.cells #[.slice A ns.length c] 29)) (fun e w' => OfYes (w.alloc (.cells #[.slice A ns.length c] 29)) x e w'))) :
    Calls Try.prog 12 #[.agg #[.slice A ns.length c], .string key] w (fun e w' => e = .returned (.int .i64 (under (keysX x) key)) ∧ Below w.heap.size w w') := by
  obtain ⟨kk, hkk⟩ := (l3Keys_ev x (by omega) (by omega)).rounds
  clear hsz
  go_enter Try.func12, Try.ntmps12
  go_wp2_with fail
  refine HC.out.mono ?_
  rintro e w5 ⟨A1, c1, A2, c2, rfl, hj, K1, L1, K2, L2⟩
  have HB5 := Aside0.mk hj
  clear hj HC
  have Y5 := Aside0.mk (blk_new w5 (.cells #[.bool x.f0, .slice A1 x.f1.length c1, .slice A2 x.f2.length c2] 53))
  have y0 : (w5.alloc (.cells #[.bool x.f0, .slice A1 x.f1.length c1, .slice A2 x.f2.length c2] 53)).cell? ⟨w5.heap.size, 0, none⟩ = some (.bool x.f0) := (blkcell Y5.out 0).trans rfl
  have y1 : (w5.alloc (.cells #[.bool x.f0, .slice A1 x.f1.length c1, .slice A2 x.f2.length c2] 53)).cell? ⟨w5.heap.size, 1, none⟩ = some (.slice A1 x.f1.length c1) := (blkcell Y5.out 1).trans rfl
  have y2 : (w5.alloc (.cells #[.bool x.f0, .slice A1 x.f1.length c1, .slice A2 x.f2.length c2] 53)).cell? ⟨w5.heap.size, 2, none⟩ = some (.slice A2 x.f2.length c2) := (blkcell Y5.out 2).trans rfl
  have HCK := Aside0.mk (PFnTree.spec_l3Keys.calls kk x.f0 A1 c1 x.f1 A2 c2 x.f2 (keysX x) (w5.alloc (.cells #[.bool x.f0, .slice A1 x.f1.length c1, .slice A2 x.f2.length c2] 53)) (Kd.C_below K1 (below_alloc (Below.refl _ _) _)) L1 (Kd.C_below K2 (below_alloc (Below.refl _ _) _)) L2 hkk)
  clear K1 L1 K2 L2 hkk
  go_wp2_with fail
  refine HCK.out.mono ?_
  rintro e w6 ⟨v, rfl, hr, hb6⟩
  obtain ⟨q, hq⟩ : ∃ q, (keysX x).length = q := ⟨_, rfl⟩
  have hq2 : q ≤ 20000 := by omega
  obtain ⟨DK, cK, eK⟩ := Kd.R_slice hr
  rw [hq] at eK
  subst eK
  have HQ := Aside0.mk hq
  have HR := Aside0.mk hr
  have HB6 := Aside0.mk (below_step (below_step (below_alloc (Below.refl w.heap.size w) (.cells #[.slice A ns.length c] 29)) HB5.out) (below_step (below_alloc (Below.refl w5.heap.size w5) (.cells #[.bool x.f0, .slice A1 x.f1.length c1, .slice A2 x.f2.length c2] 53)) hb6))
  clear hb6 hr hq y0 y1 y2 hfew
  go_wp2
  go_loopw [7, 9] (fun n i wr => ∃ k : Nat, k ≤ q ∧ i = .int .i64 k ∧ n = .int .i64 (under ((keysX x).take k) key : Nat) ∧ Aside0 (Below w6.heap.size w6 wr)) (fun _ i _ => q - (intOf i).toNat)
  case atStart => exact ⟨0, Nat.zero_le _, rfl, by simp [under], ⟨Below.refl _ _⟩⟩
  case round =>
    obtain ⟨k, hk, rfl, rfl, hb⟩ := hrel
    have hule := under_le ((keysX x).take k) key
    rw [List.length_take] at hule
    by_cases hlt : k < q
    · obtain ⟨y, hy⟩ : ∃ y, (keysX x)[k]? = some y := ⟨_, List.getElem?_eq_getElem (by rw [HQ.out]; exact hlt)⟩
      have hql : 0 < (keysX x).length := by rw [HQ.out]; omega
      obtain ⟨g, rfl, HKEY⟩ := str_at HR.out hql
      have ck : wr.cell? ⟨g, k, none⟩ = some (.string y) := pw_cell_below hb.out (HKEY k y hy)
      have i1 : (k : Int) < (q : Int) := by omega
      have HUT := Aside0.mk (under_take (keysX x) key k y hy)
      obtain ⟨u, hu⟩ : ∃ u, under ((keysX x).take k) key = u := ⟨_, rfl⟩
      rw [hu] at HUT hule ⊢
      have u1 : (u : Int) ≤ 20000 := by omega
      clear hql hy HKEY hu hule
      cases hl : ltB y key with
      | true =>
        have o1 : Op.bytesLess y.toList key.toList = true := hl
        rw [hl] at HUT
        clear hl
        go_wp2
        go_roundw
        case rel => exact ⟨k + 1, by omega, by go_num, by rw [HUT.out]; go_num, hb⟩
        case measure => simp [intOf]; omega
      | false =>
        have o1 : Op.bytesLess y.toList key.toList = false := hl
        rw [hl] at HUT
        clear hl
        go_wp2
        go_roundw
        case rel => exact ⟨k + 1, by omega, by go_num, by rw [HUT.out]; simp, hb⟩
        case measure => simp [intOf]; omega
    · obtain rfl : k = q := by omega
      have e1 : (keysX x).take k = keysX x := List.take_of_length_le (by rw [HQ.out]; omega)
      rw [e1]
      clear e1 hlt hule
      go_wp2
      go_ret
      exact ⟨rfl, below_step HB6.out hb.out⟩
set_option maxHeartbeats 1000000 in
set_option maxRecDepth 100000 in
theorem specRank_no (A : Option Addr) (c : Nat) (ns : List TN) (key : ByteArray) (w : World)
    (HC : Aside0 (Calls Try.prog 28 #[.agg #[.slice A ns.length c]] (w.alloc (.cells #[.slice A ns.length c] 29)) (fun e w' => OfNo (w.alloc (.cells #[.slice A ns.length c] 29)) e w'))) :
    Calls Try.prog 12 #[.agg #[.slice A ns.length c], .string key] w (fun e w' => e = .returned (.int .i64 (0 : Nat)) ∧ Below w.heap.size w w') := by
  go_enter Try.func12, Try.ntmps12
  go_wp2_with fail
  refine HC.out.mono ?_
  rintro e w5 ⟨x, A1, c1, A2, c2, rfl, hj, K1, L1, K2, L2, hfew, hsz⟩
  have HB5 := Aside0.mk hj
  obtain ⟨kk, hkk⟩ := (l3Keys_ev x (by omega) (by omega)).rounds
  clear hj HC hsz
  have Y5 := Aside0.mk (blk_new w5 (.cells #[.bool x.f0, .slice A1 x.f1.length c1, .slice A2 x.f2.length c2] 53))
  have y0 : (w5.alloc (.cells #[.bool x.f0, .slice A1 x.f1.length c1, .slice A2 x.f2.length c2] 53)).cell? ⟨w5.heap.size, 0, none⟩ = some (.bool x.f0) := (blkcell Y5.out 0).trans rfl
  have y1 : (w5.alloc (.cells #[.bool x.f0, .slice A1 x.f1.length c1, .slice A2 x.f2.length c2] 53)).cell? ⟨w5.heap.size, 1, none⟩ = some (.slice A1 x.f1.length c1) := (blkcell Y5.out 1).trans rfl
  have y2 : (w5.alloc (.cells #[.bool x.f0, .slice A1 x.f1.length c1, .slice A2 x.f2.length c2] 53)).cell? ⟨w5.heap.size, 2, none⟩ = some (.slice A2 x.f2.length c2) := (blkcell Y5.out 2).trans rfl
  have HCK := Aside0.mk (PFnTree.spec_l3Keys.calls kk x.f0 A1 c1 x.f1 A2 c2 x.f2 (keysX x) (w5.alloc (.cells #[.bool x.f0, .slice A1 x.f1.length c1, .slice A2 x.f2.length c2] 53)) (Kd.C_below K1 (below_alloc (Below.refl _ _) _)) L1 (Kd.C_below K2 (below_alloc (Below.refl _ _) _)) L2 hkk)
  clear K1 L1 K2 L2 hkk
  go_wp2_with fail
  refine HCK.out.mono ?_
  rintro e w6 ⟨v, rfl, hr, hb6⟩
  obtain ⟨q, hq⟩ : ∃ q, (keysX x).length = q := ⟨_, rfl⟩
  have hq2 : q ≤ 20000 := by omega
  obtain ⟨DK, cK, eK⟩ := Kd.R_slice hr
  rw [hq] at eK
  subst eK
  have HQ := Aside0.mk hq
  have HR := Aside0.mk hr
  have HB6 := Aside0.mk (below_step (below_step (below_alloc (Below.refl w.heap.size w) (.cells #[.slice A ns.length c] 29)) HB5.out) (below_step (below_alloc (Below.refl w5.heap.size w5) (.cells #[.bool x.f0, .slice A1 x.f1.length c1, .slice A2 x.f2.length c2] 53)) hb6))
  clear hb6 hr hq y0 y1 y2 hfew
  go_wp2
  go_loopw [7, 9] (fun n i wr => i = .int .i64 0 ∧ n = .int .i64 0 ∧ wr = w6) (fun _ _ _ => 0)
  case atStart => exact ⟨rfl, rfl, rfl⟩
  case round =>
    obtain ⟨rfl, rfl, rfl⟩ := hrel
    go_wp2
    go_ret
    exact ⟨rfl, HB6.out⟩

theorem specRank_any (A : Option Addr) (c : Nat) (ns : List TN) (key : ByteArray) (w : World) (hns : Kd.C kTN w A ns.length ns) (hcap : ns.length ≤ c) :
    Calls Try.prog 12 #[.agg #[.slice A ns.length c], .string key] w (fun e w' => e = .returned (.int .i64 (rankS ns key)) ∧ Below w.heap.size w w') := by
  have HC := Aside0.mk (of_any A c ns (w.alloc (.cells #[.slice A ns.length c] 29)) (Kd.C_below hns (below_alloc (Below.refl _ _) _)) hcap)
  unfold rankS
  cases h : specX ns with
  | none =>
    rw [h] at HC
    exact specRank_no A c ns key w HC
  | some x =>
    rw [h] at HC
    obtain ⟨_, hg, hk⟩ := spec_root ns x h
    exact specRank_yes A c ns key w x (by rw [← hk]; exact hg.few) (spec_size ns x h) HC
end Go.Proofs.Ytnfaiblhjgmjgaa
