/-
  toTree, its nodes' rows apart.
-/
import Derived.Test.YtnfaiblhjgmjgaaTo
namespace Go.Proofs.Ytnfaiblhjgmjgaa
open Go.RowKit Go.Proofs.YtnfaiblhjgmjgaaW.PrintWords

theorem S_high {α : Type} {d : Kd α} {e base base' : Nat} {ok : Nat → Prop} {w w1 : World} {v : Value} {xs : List α} (h : Kd.S d e w base ok v xs) (hb : base' ≤ base) (hm : ∀ k, base ≤ k → k < w.heap.size → w1.heap[k]? = w.heap[k]?) : Kd.S d e w1 base' (fun _ => True) v xs :=
  Kd.S_lower (Kd.S_mono (Kd.S_step (Kd.S_mono (Kd.S_bound h) (ok' := fun k => base ≤ k) (fun k hk => hk.2.1)) hm) (fun _ _ => trivial)) hb

set_option maxHeartbeats 1000000 in
set_option maxRecDepth 100000 in
theorem toTNodeS_S (A : Option Addr) (c : Nat) (ns : List TN) (w : World) (hk : Kd.C kTN w A ns.length ns) (hl : ns.length ≤ 1048576) (hq : ∀ t ∈ ns, t.f1.length ≤ 1048576 ∧ t.f2.length ≤ 1048576) :
    Calls Try.prog 29 #[.slice A ns.length c] w fun e w' => ∃ v, e = .returned v ∧ Kd.S kTN 89 w' w.heap.size (fun _ => True) v ns ∧ Below w.heap.size w w' := by
  have HK := Aside0.mk hk
  have HQ := Aside0.mk hq
  clear hk hq
  go_enter Try.func29, Try.ntmps29
  go_wp2_with ((with_reducible refine gate_dst (N := 7) rfl ?_); refine Kd.S_make kTN (w0 := w) w.heap.size 89 rfl (N := 7) rfl 27 (.tmp 6) (.tmp 6) rfl (ns.length : Int) rfl rfl Try.underlying27 (.agg #[.bool false, .slice none 0 0, .slice none 0 0, .int .i64 0]) 64 infoTN rfl TNsz (by decide) ⟨false, [], [], 0⟩ (ok := fun _ => True) (okp := fun _ => True) (TNzero _ _ _) (fun _ h => h) trivial (Int.natCast_nonneg _) (by rw [Int.toNat_natCast]; omega) (Below.refl _ _) (Nat.le_refl _) ?_; intro v1 w1 hR hB _ hfresh; have HR := Aside0.mk hR; have HB := Aside0.mk hB; clear hR hB hfresh)
  have hR0 := HR.out
  rw [Int.toNat_natCast] at hR0
  by_cases hz : ns.length = 0
  · have hks : ns = [] := List.eq_nil_of_length_eq_zero hz
    have hRz : Kd.S kTN 89 w1 w.heap.size (fun _ => True) v1 ns := by rw [hz] at hR0; rw [hks]; exact hR0
    have HRZ := Aside0.mk hRz
    clear hR0 hRz
    subst hks
    go_loopw [4] (fun iv wr => iv = .int .i64 0 ∧ w1 = wr) (fun _ _ => 0)
    case atStart => exact ⟨rfl, rfl⟩
    case round =>
      obtain ⟨rfl, rfl⟩ := hrel
      go_wp2
      go_ret
      exact ⟨v1, rfl, HRZ.out, HB.out⟩
  · obtain ⟨g, cap, hv, hgb, hgl, _⟩ := Kd.R_form (Kd.S_R hR0) (by simp; omega)
    rw [List.length_replicate] at hv
    subst hv
    have HR0 := Aside0.mk hR0
    clear hR0 HR
    go_loopw [4] (fun iv wr => ∃ i : Nat, i ≤ ns.length ∧ iv = .int .i64 i ∧ Aside0 (Below w.heap.size w wr) ∧ Aside0 (Kd.S kTN 89 wr w.heap.size (fun _ => True) (.slice (some ⟨g, 0, none⟩) ns.length cap) (ns.take i ++ List.replicate (ns.length - i) ⟨false, [], [], 0⟩))) (fun iv _ => ns.length - (intOf iv).toNat)
    case atStart => exact ⟨0, Nat.zero_le _, rfl, HB, ⟨by simpa using HR0.out⟩⟩
    case round =>
      obtain ⟨i, hil, rfl, hb, hr⟩ := hrel
      by_cases hlt : i < ns.length
      · obtain ⟨x, hx⟩ : ∃ x, ns[i]? = some x := ⟨_, List.getElem?_eq_getElem hlt⟩
        obtain ⟨ad, A1, c1, A2, c2, rfl, e0, e1, e2, e3, l1, k1, l2, k2⟩ := PFnTree.at_T89 HK.out (i : Int) (by omega) (by omega)
        have hrd : PFnTree.rd_T89 ns (i : Int) = x := by simp [PFnTree.rd_T89, List.getD_eq_getElem?_getD, hx]
        rw [hrd] at e0 e1 e2 e3 l1 k1 l2 k2
        have b0 := pw_cell_below hb.out e0
        have b1 := pw_cell_below hb.out e1
        have b2 := pw_cell_below hb.out e2
        have b3 := pw_cell_below hb.out e3
        rw [Int.toNat_natCast] at b0 b1 b2 b3
        have hqx := HQ.out x (List.mem_of_getElem? hx)
        have HC := Aside0.mk (toTNode_any x A1 c1 A2 c2 wr (Kd.C_below k1 hb.out) (Kd.C_below k2 hb.out) hqx.1 hqx.2)
        have hset : (ns.take i ++ List.replicate (ns.length - i) (⟨false, [], [], 0⟩ : TN)).set i x = ns.take (i + 1) ++ List.replicate (ns.length - (i + 1)) ⟨false, [], [], 0⟩ := by
          have e1 : List.replicate (ns.length - i) (⟨false, [], [], 0⟩ : TN) = ⟨false, [], [], 0⟩ :: List.replicate (ns.length - (i + 1)) ⟨false, [], [], 0⟩ := by
            rw [show ns.length - i = (ns.length - (i + 1)) + 1 by omega, List.replicate_succ]
          have e2 : ns.take (i + 1) = ns.take i ++ [x] := by rw [List.take_add_one, hx]; rfl
          rw [e1, e2, List.set_append_right _ _ (by rw [List.length_take]; omega), List.length_take, Nat.min_eq_left (by omega), Nat.sub_self]
          simp
        have HSET := Aside0.mk hset
        clear e0 e1 e2 e3 k1 k2 hx hrd hqx hset
        go_wp2_with fail
        refine HC.out.mono ?_
        rintro e w2 ⟨D1, d1, D2, d2, rfl, hr1, hr2, hb2⟩
        have hrow : Kd.S kTN 89 w2 w.heap.size (fun k => True ∧ ¬ wr.heap.size ≤ k) (.slice (some ⟨g, 0, none⟩) ns.length cap) (ns.take i ++ List.replicate (ns.length - i) ⟨false, [], [], 0⟩) := Kd.S_below (Kd.S_mono (Kd.S_bound hr.out) (fun k hk => ⟨trivial, by have := hk.2.2.1; omega⟩)) hb2
        obtain ⟨oki, cc, hcl, hM, hcc, hfz, hoki, hH⟩ := Kd.S_elem hrow ⟨false, [], [], 0⟩ (i : Int) (by omega) (by omega)
        have hgl2 : g < wr.heap.size := Kd.S_lt hr.out g rfl
        have hnew := Kd.S_seg (okg := fun k => wr.heap.size ≤ k) (okp := fun k => wr.heap.size ≤ k) (seg := [.bool x.f0, .slice D1 x.f1.length d1, .slice D2 x.f2.length d2, .int .i64 x.f3]) (j := 0) (x' := x) hH (by omega) (by omega) (Nat.le_refl _) (by
          have e : cc.drop (0 + [Value.bool x.f0, .slice D1 x.f1.length d1, .slice D2 x.f2.length d2, .int .i64 x.f3].length) = [] := List.drop_eq_nil_of_le (by rw [hcl]; exact Nat.le_refl _)
          rw [e]
          exact PFnTree.k89_mkM w2 _ _ x (Kd.R_lower (Kd.R_mono (Kd.R_bound hr1) (fun k hk => hk.2.1)) hb.out.size) (Kd.R_lower (Kd.R_mono (Kd.R_bound hr2) (fun k hk => hk.2.1)) hb.out.size)) (fun k hk => .inr hk) (fun k hk => ⟨trivial, by omega⟩)
        rw [Int.toNat_natCast, HSET.out] at hnew
        have HN := Aside0.mk hnew.1
        have HB2 := Aside0.mk hb2
        have hcells : ∀ j u, cc[j]? = some u → w2.cell? ⟨g, i * 4 + j, none⟩ = some u := fun j u hj => by have := hcc j u hj; rwa [Int.toNat_natCast] at this
        have hfr : ∀ j, w2.frozen? ⟨g, i * 4 + j, none⟩ = false := fun j => by have := hfz j; rwa [Int.toNat_natCast] at this
        match cc, hcl with
        | [q0, q1, q2, q3], _ =>
          have s0 : w2.cell? ⟨g, i * 4, none⟩ = some q0 := hcells 0 _ rfl
          have s1 : w2.cell? ⟨g, i * 4 + 1, none⟩ = some q1 := hcells 1 _ rfl
          have s2 : w2.cell? ⟨g, i * 4 + 2, none⟩ = some q2 := hcells 2 _ rfl
          have s3 : w2.cell? ⟨g, i * 4 + 3, none⟩ = some q3 := hcells 3 _ rfl
          have f0 : w2.frozen? ⟨g, i * 4, none⟩ = false := hfr 0
          have f1 : w2.frozen? ⟨g, i * 4 + 1, none⟩ = false := hfr 1
          have f2 : w2.frozen? ⟨g, i * 4 + 2, none⟩ = false := hfr 2
          have f3 : w2.frozen? ⟨g, i * 4 + 3, none⟩ = false := hfr 3
          clear hcells hfr hnew hM hcc hfz hrow hoki hH hr1 hr2 hb2 b0 b1 b2 b3
          go_wp2
          go_roundw
          case rel =>
            refine ⟨i + 1, by omega, by go_num, ⟨?_⟩, HN⟩
            have hbw := below_step hb.out HB2.out
            exact below_set (below_set (below_set (below_set hbw hgb) hgb) hgb) hgb
          case measure => simp [intOf]; omega
      · have e : ns.take i ++ List.replicate (ns.length - i) (⟨false, [], [], 0⟩ : TN) = ns := by rw [List.take_of_length_le (by omega), show ns.length - i = 0 by omega]; simp
        have hfin := hr.out
        rw [e] at hfin
        have HF := Aside0.mk hfin
        clear hfin e
        go_wp2
        go_ret
        exact ⟨_, rfl, HF.out, hb.out⟩

set_option maxHeartbeats 1000000 in
set_option maxRecDepth 100000 in
theorem toTree_S (A : Option Addr) (c : Nat) (ns : List TN) (w : World) (hk : Kd.C kTN w A ns.length ns) (hl : ns.length ≤ 1048576) (hq : ∀ t ∈ ns, t.f1.length ≤ 1048576 ∧ t.f2.length ≤ 1048576) :
    Calls Try.prog 9 #[.agg #[.slice A ns.length c]] w fun e w' => ∃ B d, e = .returned (.agg #[.slice B ns.length d]) ∧ Kd.S kTN 89 w' w.heap.size (fun _ => True) (.slice B ns.length d) ns ∧ Below w.heap.size w w' := by
  obtain ⟨W3, hW3⟩ : ∃ W3 : World, W3 = ((w.alloc (.cells #[.slice A ns.length c] 24)).alloc (.cells #[.slice none 0 0] 29)).alloc (.cells #[.slice none 0 0] 29) := ⟨_, rfl⟩
  have hb3 : Below w.heap.size w W3 := by rw [hW3]; exact below_alloc (below_alloc (below_alloc (Below.refl _ _) _) _) _
  have hs3 : W3.heap.size = w.heap.size + 1 + 1 + 1 := by rw [hW3, World.size_alloc, World.size_alloc, World.size_alloc]
  have B1 := Aside0.mk (show W3.heap[w.heap.size + 1]? = some (.cells #[.slice none 0 0] 29 (0, 0)) by
    rw [hW3]
    have := blk_new (w.alloc (.cells #[.slice A ns.length c] 24)) (.cells #[.slice none 0 0] 29)
    rw [World.size_alloc] at this
    exact blk_alloc this _)
  have B2 := Aside0.mk (show W3.heap[w.heap.size + 1 + 1]? = some (.cells #[.slice none 0 0] 29 (0, 0)) by
    rw [hW3]
    have := blk_new ((w.alloc (.cells #[.slice A ns.length c] 24)).alloc (.cells #[.slice none 0 0] 29)) (.cells #[.slice none 0 0] 29)
    rw [World.size_alloc, World.size_alloc] at this
    exact this)
  have HC := Aside0.mk (toTNodeS_S A c ns W3 (Kd.C_below hk hb3) hl hq)
  have HB3 := Aside0.mk hb3
  have HS3 := Aside0.mk hs3
  have HW3 := Aside0.mk hW3
  clear hk hb3 hs3 hW3 hq
  go_enter Try.func9, Try.ntmps9
  go_wp2_with fail
  rw [← HW3.out]
  refine HC.out.mono ?_
  rintro e w1 ⟨v1, rfl, hr1, hb1⟩
  obtain ⟨D1, d1, hv1⟩ := Kd.R_slice (Kd.S_R hr1)
  subst hv1
  have HR1 := Aside0.mk hr1
  have HB1 := Aside0.mk hb1
  have n1 := Aside0.mk (blk_below B1.out hb1)
  have n2 := Aside0.mk (blk_below B2.out hb1)
  clear hr1 hb1
  have x0 : w1.cell? ⟨w.heap.size + 1 + 1, 0, none⟩ = some (.slice none 0 0) := (blkcell n2.out 0).trans rfl
  have z0 : w1.frozen? ⟨w.heap.size + 1 + 1, 0, none⟩ = false := blk_frozen n2.out 0
  have r0 : w1.cell? ⟨w.heap.size + 1, 0, none⟩ = some (.slice none 0 0) := (blkcell n1.out 0).trans rfl
  have rz0 : w1.frozen? ⟨w.heap.size + 1, 0, none⟩ = false := blk_frozen n1.out 0
  go_wp2
  refine bodyPost_ret (v := .agg #[.slice D1 ns.length d1]) (by simp [results, Try.results9, go_sem, r0]) rfl ?_
  have hs3 := HS3.out
  refine ⟨D1, d1, rfl, ?_, ?_⟩
  · refine S_high HR1.out HB3.out.size (fun k h1 h2 => ?_)
    have hk : w.heap.size + 1 + 1 + 1 ≤ k := by omega
    repeat (refine (Below.heap_setCell _ _ _ _ ?_).trans ?_; · (dsimp only; omega))
    rfl
  · exact below_set (below_set (below_step HB3.out HB1.out) (by omega)) (by omega)
end Go.Proofs.Ytnfaiblhjgmjgaa
