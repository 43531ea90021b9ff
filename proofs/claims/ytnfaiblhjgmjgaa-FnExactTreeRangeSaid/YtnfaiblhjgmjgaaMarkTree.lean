/-
  markTree writes its own blocks alone.
-/
import Derived.Test.YtnfaiblhjgmjgaaMark
namespace Go.Proofs.Ytnfaiblhjgmjgaa
open Go.RowKit Go.Proofs.YtnfaiblhjgmjgaaW.PrintWords

def MarkPost (w0 w : World) (ok : Nat → Prop) (e : Ending) (w' : World) : Prop := ∃ r : Nat, e = .returned (.int .i64 r) ∧ Kept w w' ok ∧ Below w0.heap.size w0 w'

set_option maxHeartbeats 2000000 in
set_option maxRecDepth 100000 in
theorem markTNodeS_any (w0 w : World) (ok : Nat → Prop) (v : Value) (ns : List TN) (k0 : Nat) (hB : Below w0.heap.size w0 w) (hS : Kd.S kTN 89 w w0.heap.size ok v ns) (hl : ns.length ≤ 1048576) (hq : ∀ t ∈ ns, t.f1.length ≤ 1048576 ∧ t.f2.length ≤ 1048576) (h0 : k0 ≤ 1000) :
    Calls Try.prog 36 #[v, .int .i64 k0] w (MarkPost w0 w ok) := by
  obtain ⟨D, d, hv⟩ := Kd.R_slice (Kd.S_R hS)
  subst hv
  by_cases hz : ns.length = 0
  · rw [hz]
    have HB := Aside0.mk hB
    clear hS hq hB
    go_enter Try.func36, Try.ntmps36
    go_wp2
    go_loopw [1, 5] (fun kv iv wr => iv = .int .i64 0 ∧ kv = .int .i64 k0 ∧ w = wr) (fun _ _ _ => 0)
    case atStart => exact ⟨rfl, rfl, rfl⟩
    case round =>
      obtain ⟨rfl, rfl, rfl⟩ := hrel
      go_wp2
      go_ret
      exact ⟨k0, rfl, Kept.refl _ _, HB.out⟩
  · obtain ⟨g, cap, hv, hgb, hgl, _⟩ := Kd.R_form (Kd.S_R hS) (by omega)
    injection hv with hv1 hv2 hv3
    subst hv1 hv3
    have HB := Aside0.mk hB
    have HS := Aside0.mk hS
    have HQ := Aside0.mk hq
    obtain ⟨n, hn⟩ : ∃ n, ns.length = n := ⟨_, rfl⟩
    have HN := Aside0.mk hn
    rw [hn] at hl HS ⊢
    clear hB hS hq hn hz hgb hgl
    go_enter Try.func36, Try.ntmps36
    go_wp2
    go_loopw [1, 5] (fun kv iv wr => ∃ (i kk : Nat) (xs : List TN), i ≤ n ∧ iv = .int .i64 i ∧ kv = .int .i64 kk ∧ kk ≤ 1000 + i * 2097154 ∧ Aside0 (xs.length = n) ∧ Aside0 (∀ t ∈ xs, t.f1.length ≤ 1048576 ∧ t.f2.length ≤ 1048576) ∧ Aside0 (Below w0.heap.size w0 wr) ∧ Aside0 (Kd.S kTN 89 wr w0.heap.size ok (.slice (some ⟨g, 0, none⟩) n d) xs) ∧ Aside0 (Kept w wr ok)) (fun _ iv _ => n - (intOf iv).toNat)
    case atStart => exact ⟨0, k0, ns, Nat.zero_le _, rfl, rfl, by omega, HN, HQ, HB, HS, ⟨Kept.refl _ _⟩⟩
    case round =>
      obtain ⟨i, kk, xs, hil, rfl, rfl, hkk, HXL, HXQ, HBR, HSR, HKR⟩ := hrel
      by_cases hlt : i < n
      · obtain ⟨x, hx⟩ : ∃ x, xs[i]? = some x := ⟨_, List.getElem?_eq_getElem (by rw [HXL.out]; exact hlt)⟩
        have hxg : xs.getD i ⟨false, [], [], 0⟩ = x := by simp [List.getD_eq_getElem?_getD, hx]
        obtain ⟨oki, cc, hcl, hM, hcc, hfz, hoki, hH⟩ := Kd.S_elem HSR.out ⟨false, [], [], 0⟩ (i : Int) (by omega) (by omega)
        rw [Int.toNat_natCast, hxg] at hM
        rw [Int.toNat_natCast] at hcc hfz
        obtain ⟨v1, v2, hcs, hr1, hr2⟩ := PFnTree.k89_openM hM
        subst hcs
        have hxq := HXQ.out x (List.mem_of_getElem? hx)
        obtain ⟨D1, d1, e1⟩ := Kd.R_slice hr1
        obtain ⟨D2, d2, e2⟩ := Kd.R_slice hr2
        subst e1 e2
        have s0 : wr.cell? ⟨g, i * 4, none⟩ = some (.bool x.f0) := hcc 0 _ rfl
        have s1 : wr.cell? ⟨g, i * 4 + 1, none⟩ = some (.slice D1 x.f1.length d1) := hcc 1 _ rfl
        have s2 : wr.cell? ⟨g, i * 4 + 2, none⟩ = some (.slice D2 x.f2.length d2) := hcc 2 _ rfl
        have s3 : wr.cell? ⟨g, i * 4 + 3, none⟩ = some (.int .i64 x.f3) := hcc 3 _ rfl
        have f0 : wr.frozen? ⟨g, i * 4, none⟩ = false := hfz 0
        have i1 : (i : Int) < (n : Int) := by omega
        have k1 : (kk : Int) ≤ 3000000000000 := by omega
        clear hcc hfz hM
        have hgo : ∀ k, oki k → k ≠ g := fun k hk => (hoki k hk).2
        obtain ⟨bb, hbb⟩ : ∃ bb : Bool, ((kk : Int) % 3 == 0) = bb := ⟨_, rfl⟩
        obtain ⟨wa, hwa⟩ : ∃ wa : World, wr.setCell ⟨g, i * 4, none⟩ (.bool bb) = wa := ⟨_, rfl⟩
        have hHa := Kd.H_seg hH (by omega) (by omega) (seg := [.bool bb]) (j := 0) (by simp only [List.length_singleton]; exact Nat.le_of_ble_eq_true rfl) (by intro q hq; rw [List.mem_singleton.1 hq]; rfl)
        change Kd.H _ _ (wr.setCell ⟨g, i * 4, none⟩ (.bool bb)) _ _ _ _ _ _ [.bool bb, .slice D1 x.f1.length d1, .slice D2 x.f2.length d2, .int .i64 x.f3] ∧ wr.grownBy (wr.setCell ⟨g, i * 4, none⟩ (.bool bb)) (some g) at hHa
        have hr1a := Kd.R_tight2 rfl (Kd.R_far hr1 (p := ⟨g, i * 4, none⟩) hgo (.bool bb))
        have hr2a := Kd.R_far hr2 (p := ⟨g, i * 4, none⟩) hgo (.bool bb)
        have hba := HBR.out.setCell (p := ⟨g, i * 4, none⟩) (Kd.S_base HSR.out g rfl) (.bool bb)
        have hkg : ok g := (Kd.S_R HSR.out).1 g rfl
        have hka : Kept w (wr.setCell ⟨g, i * 4, none⟩ (.bool bb)) ok := HKR.out.setCell (.inl hkg) _
        have t1 : (wr.setCell ⟨g, i * 4, none⟩ (.bool bb)).cell? ⟨g, i * 4 + 1, none⟩ = some (.slice D1 x.f1.length d1) := by rw [World.cell?_setCell_other _ _ _ _ (by simp)]; exact s1
        have t2 : (wr.setCell ⟨g, i * 4, none⟩ (.bool bb)).cell? ⟨g, i * 4 + 2, none⟩ = some (.slice D2 x.f2.length d2) := by rw [World.cell?_setCell_other _ _ _ _ (by simp)]; exact s2
        have t3 : (wr.setCell ⟨g, i * 4, none⟩ (.bool bb)).cell? ⟨g, i * 4 + 3, none⟩ = some (.int .i64 x.f3) := by rw [World.cell?_setCell_other _ _ _ _ (by simp)]; exact s3
        rw [hwa] at hHa hr1a hr2a hba hka t1 t2 t3
        have hty : ∀ k, (Value.slice D1 x.f1.length d1).ownBlock = some k → ∃ cells, wa.heap[k]? = some (.cells cells 9 (0, 0)) := Kd.R_typed hr1a
        have hr2b := Kd.R_apart' hr2a hty (by decide)
        have HC1 := Aside0.mk (PFnTree.laws_markStringS.calls (x.f1.length + 101) (fun k => some k = (Value.slice D1 x.f1.length d1).ownBlock ∧ oki k) (.slice D1 x.f1.length d1) x.f1 ((kk + 1 : Nat) : Int) _ _ w0 wa hba hr1a (markS_f x.f1 (kk + 1) (by omega)))
        have HHA := Aside0.mk hHa.1
        have HR2B := Aside0.mk hr2b
        have HKA := Aside0.mk hka
        have HOKI := Aside0.mk hoki
        have HO1 := Aside0.mk hr1.1
        have HO2 := Aside0.mk hr2.1
        have HXQ1 := Aside0.mk hxq
        have HBB := Aside0.mk hbb
        have HWA := Aside0.mk hwa
        have HKG := Aside0.mk hkg
        have HGB := Aside0.mk (Kd.S_base HSR.out g rfl)
        clear hHa hr1a hr2a hba hka hty hr2b hr1 hr2 hH hoki hxq hbb hwa hkg hgo hcl hx hxg
        go_wp2_with fail
        rw [HBB.out, HWA.out]
        refine HC1.out.mono ?_
        rintro e w3 ⟨rfl, hr1c, hb3, hk3⟩
        have hng : ¬ (some g = (Value.slice D1 x.f1.length d1).ownBlock ∧ oki g) := fun q => (HOKI.out g q.2).2 rfl
        have hr1d := Kd.R_tight rfl hr1c
        have hr2c := Kd.R_tight2 rfl (Kd.R_kept HR2B.out hk3 (fun k hk q => hk.2 q.1))
        have hH3 := Kd.H_kept HHA.out hk3 (fun k _ h2 q => h2 q.2)
        have u2 : w3.cell? ⟨g, i * 4 + 2, none⟩ = some (.slice D2 x.f2.length d2) := cell_kept t2 hk3 hng
        obtain ⟨ri, hri⟩ := markI_f x.f2 (kk + 1 + x.f1.length) (by have := HXQ1.out; omega)
        have HC2 := Aside0.mk (PFnTree.laws_markInt64S.calls (x.f2.length + 1) _ (.slice D2 x.f2.length d2) x.f2 ((kk + 1 + x.f1.length : Nat) : Int) _ _ w0 w3 hb3 hr2c hri)
        have HKC := Aside0.mk (HKA.out.then_ hk3 (fun k q => .inl (HOKI.out k q.2).1))
        have HR1D := Aside0.mk hr1d
        have HH3 := Aside0.mk hH3
        have hx1 := HXQ1.out.1
        have k2 : ((kk + 1 + x.f1.length : Nat) : Int) ≤ 3000001048578 := by omega
        clear hr1c hr1d hr2c hk3 hb3 hH3 hng hri t1 t2 t3 s0 s1 s2 s3 f0
        obtain ⟨k4, hk4⟩ : ∃ k4 : Nat, kk + 1 + x.f1.length = k4 := ⟨_, rfl⟩
        rw [hk4] at HC2 k2 ⊢
        have HK4 := Aside0.mk hk4
        clear hk4 hx1
        go_wp2_with fail
        refine HC2.out.mono ?_
        rintro e w4 ⟨rfl, hr2d, hb4, hk4⟩
        have hng : ¬ (some g = (Value.slice D2 x.f2.length d2).ownBlock ∧ oki g ∧ some g ≠ (Value.slice D1 x.f1.length d1).ownBlock) := fun q => (HOKI.out g q.2.1).2 rfl
        have hr1e := Kd.R_kept HR1D.out hk4 (fun k hk q => q.2.2 hk)
        have hr2e := Kd.R_tight rfl hr2d
        have hH4 := Kd.H_kept HH3.out hk4 (fun k _ h2 q => h2 q.2.1)
        have HKC4 := Aside0.mk (HKC.out.then_ hk4 (fun k q => .inl (HOKI.out k q.2.1).1))
        have hfz4 : w4.frozen? ⟨g, i * 4 + 3, none⟩ = false := by
          obtain ⟨_, f, hR⟩ := hH4
          obtain ⟨cells, hc⟩ := Kd.R_typed hR g rfl
          exact blk_frozen hc _
        have s3 : w4.cell? ⟨g, i * 4 + 3, none⟩ = some (.int .i64 x.f3) := by
          obtain ⟨_, _, _, _, _, hcc, _⟩ := Kd.H_raw hH4 (by omega) (by omega)
          exact hcc 3 _ rfl
        have HR1E := Aside0.mk hr1e
        have HR2E := Aside0.mk hr2e
        have HH4 := Aside0.mk hH4
        have HB4 := Aside0.mk hb4
        clear hr2d hb4 hk4 hng hr1e hr2e hH4 u2
        obtain ⟨k5, hk5⟩ : ∃ k5 : Nat, k4 + x.f2.length = k5 := ⟨_, rfl⟩
        rw [hk5]
        have k3 : (k5 : Int) ≤ 3000002097154 := by have := HXQ1.out.2; have := HK4.out; have := HXQ1.out.1; omega
        have HK5 := Aside0.mk hk5
        clear hk5 k2
        go_wp2
        go_roundw
        case rel =>
          have hgo : ∀ k, oki k → k ≠ g := fun k hk => (HOKI.out k hk).2
          have h5 := Kd.H_seg HH4.out (by omega) (by omega) (seg := [.int .i64 (k5 : Int)]) (j := 3) (by simp only [List.length_singleton]; exact Nat.le_of_ble_eq_true rfl) (by intro q hq; rw [List.mem_singleton.1 hq]; rfl)
          change Kd.H _ _ (w4.setCell ⟨g, i * 4 + 3, none⟩ (.int .i64 (k5 : Int))) _ _ _ _ _ _ [.bool bb, .slice D1 x.f1.length d1, .slice D2 x.f2.length d2, .int .i64 (k5 : Int)] ∧ w4.grownBy (w4.setCell ⟨g, i * 4 + 3, none⟩ (.int .i64 (k5 : Int))) (some g) at h5
          have ho1 : ∀ k, some k = (Value.slice D1 x.f1.length d1).ownBlock → oki k := fun k hk => HO1.out k hk.symm
          have ho2 : ∀ k, some k = (Value.slice D2 x.f2.length d2).ownBlock → oki k := fun k hk => HO2.out k hk.symm
          have g1 := Kd.R_far (Kd.R_mono HR1E.out ho1) (p := ⟨g, i * 4 + 3, none⟩) hgo (.int .i64 (k5 : Int))
          have g2 := Kd.R_far (Kd.R_mono HR2E.out ho2) (p := ⟨g, i * 4 + 3, none⟩) hgo (.int .i64 (k5 : Int))
          obtain ⟨_, _, el⟩ := Kd.R_slice g2
          injection el with _ el _
          have hS5 := Kd.H_back h5.1 (PFnTree.k89_mkM _ _ oki ⟨bb, marks (kk + 1) x.f1.length, ri, (k5 : Int)⟩ g1 g2) (fun _ h => h)
          have e1 := HXQ1.out
          have e4 := HK4.out
          have e5 := HK5.out
          refine ⟨i + 1, k5 + 1, _, by omega, by go_num, by go_num, by omega, ⟨?_⟩, ⟨?_⟩, ⟨HB4.out.setCell HGB.out _⟩, ⟨hS5⟩, ⟨HKC4.out.setCell (.inl HKG.out) _⟩⟩
          · rw [List.length_set]; exact HXL.out
          · intro t ht
            rcases List.mem_or_eq_of_mem_set ht with ht | rfl
            · exact HXQ.out t ht
            · dsimp only
              rw [marks_len]
              omega
        case measure => simp [intOf]; omega
      · have e : i = n := by omega
        subst e
        clear hlt
        go_wp2
        go_ret
        exact ⟨kk, rfl, HKR.out, HBR.out⟩
set_option maxHeartbeats 1000000 in
set_option maxRecDepth 100000 in
theorem markTree_any (w0 w : World) (ok : Nat → Prop) (B : Option Addr) (d : Nat) (ns : List TN) (k0 : Nat) (hB : Below w0.heap.size w0 w) (hS : Kd.S kTN 89 w w0.heap.size ok (.slice B ns.length d) ns) (hl : ns.length ≤ 1048576) (hq : ∀ t ∈ ns, t.f1.length ≤ 1048576 ∧ t.f2.length ≤ 1048576) (h0 : k0 ≤ 1000) :
    Calls Try.prog 17 #[.agg #[.slice B ns.length d], .int .i64 k0] w (MarkPost w0 w ok) := by
  have HC := Aside0.mk (markTNodeS_any w0 (w.alloc (.cells #[.slice B ns.length d] 29)) ok _ ns k0 (below_alloc hB _) (Kd.S_alloc hS _) hl hq h0)
  clear hB hS hq hl
  go_enter Try.func17, Try.ntmps17
  go_wp2_with (go_at_call 36; refine HC.out.mono ?_; rintro e w' ⟨r, rfl, hk, hb⟩; have HK := Aside0.mk hk; have HB := Aside0.mk hb; clear hk hb)
  go_ret
  exact ⟨r, rfl, (Kept.refl w ok |>.alloc _).then_ HK.out (fun _ h => .inl h), HB.out⟩
end Go.Proofs.Ytnfaiblhjgmjgaa
