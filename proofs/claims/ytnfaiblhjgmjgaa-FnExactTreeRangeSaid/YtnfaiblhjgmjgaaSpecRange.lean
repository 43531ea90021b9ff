/-
  TreeRange of the reference.
-/
import Derived.Test.YtnfaiblhjgmjgaaRange
import Derived.Test.YtnfaiblhjgmjgaaOf
namespace Go.Proofs.Ytnfaiblhjgmjgaa
open Go.RowKit Go.Proofs.YtnfaiblhjgmjgaaW.PrintWords

theorem below_of_none {w w1 : World} (h : w.grownBy w1 none) : Below w.heap.size w w1 := ⟨h.os, h.tape, h.output, h.size, fun k hk => h.block k hk (by simp)⟩
def rangeS (ns : List TN) (lo hi : ByteArray) : List ByteArray := match specX ns with
  | none => []
  | some x => (keysX x).filter (inB lo hi)
theorem filter_take (p : ByteArray → Bool) (l : List ByteArray) (i : Nat) (x : ByteArray) (h : l[i]? = some x) : (l.take (i + 1)).filter p = (l.take i).filter p ++ if p x then [x] else [] := by
  rw [List.take_add_one, h, List.filter_append]
  cases hp : p x <;> simp [hp]

set_option maxHeartbeats 2000000 in
set_option maxRecDepth 100000 in
theorem specRange_yes (A : Option Addr) (c : Nat) (ns : List TN) (lo hi : ByteArray) (w : World) (x : LX) (hfew : (keysX x).length ≤ 20000) (hsz : sizeX x ≤ 5000)
    (HC : Aside0 (Calls Try.prog 28 #[.agg #[.slice A ns.length c]] (w.alloc (.cells #[.slice A ns.length c] 29)) (fun e w' => OfYes (w.alloc (.cells #[.slice A ns.length c] 29)) x e w'))) :
    Calls Try.prog 14 #[.agg #[.slice A ns.length c], .string lo, .string hi] w (fun e w' => ∃ v, e = .returned v ∧ Kd.R Kd.string 9 w' w.heap.size (fun _ => True) v ((keysX x).filter (inB lo hi)) ∧ Below w.heap.size w w') := by
  obtain ⟨kk, hkk⟩ := (l3Keys_ev x (by omega) (by omega)).rounds
  clear hsz
  go_enter Try.func14, Try.ntmps14
  go_wp2_with fail
  refine HC.out.mono ?_
  rintro e w5 ⟨A1, c1, A2, c2, rfl, hj, K1, L1, K2, L2⟩
  have HB5 := Aside0.mk hj
  clear hj HC
  have Y5 := Aside0.mk (blk_new w5 (.cells #[.bool x.f0, .slice A1 x.f1.length c1, .slice A2 x.f2.length c2] 53))
  have HW5 := Aside0.mk (below_alloc (below_step (below_alloc (Below.refl w.heap.size w) (.cells #[.slice A ns.length c] 29)) HB5.out) (.cells #[.bool x.f0, .slice A1 x.f1.length c1, .slice A2 x.f2.length c2] 53))
  have HK1 := Aside0.mk (Kd.C_below K1 (below_alloc (Below.refl w5.heap.size w5) (.cells #[.bool x.f0, .slice A1 x.f1.length c1, .slice A2 x.f2.length c2] 53)))
  have HK2 := Aside0.mk (Kd.C_below K2 (below_alloc (Below.refl w5.heap.size w5) (.cells #[.bool x.f0, .slice A1 x.f1.length c1, .slice A2 x.f2.length c2] 53)))
  have HL1 := Aside0.mk L1
  have HL2 := Aside0.mk L2
  have HKK := Aside0.mk hkk
  clear K1 L1 K2 L2 hkk
  go_wp2_with ((with_reducible refine gate_dst (N := 17) rfl ?_); go_must (refine Kd.R_lit Kd.string (w0 := w) w.heap.size 9 ?hg (N := 17) ?hd (xs := ([] : List ByteArray)) (inner := []) (ok := fun _ => True) (okp := fun _ => False) ?hr (Reps.none _ _) (fun _ hk => hk.elim) trivial HW5.out HW5.out.size (by simp) ?_; (case hd => rfl); (case hg => rfl); (case hr => first | (go_simp; done) | (go_simp; rfl)); intro v1 w6 ho hb hg _; have HO := Aside0.mk ho; have HB6 := Aside0.mk hb; have HG6 := Aside0.mk (below_of_none hg); have Y6 := Aside0.mk (blk_grown Y5.out hg (by simp)); clear ho hb hg; have y0 : w6.cell? ⟨w5.heap.size, 0, none⟩ = some (.bool x.f0) := (blkcell Y6.out 0).trans rfl; have y1 : w6.cell? ⟨w5.heap.size, 1, none⟩ = some (.slice A1 x.f1.length c1) := (blkcell Y6.out 1).trans rfl; have y2 : w6.cell? ⟨w5.heap.size, 2, none⟩ = some (.slice A2 x.f2.length c2) := (blkcell Y6.out 2).trans rfl))
  have HCK := Aside0.mk (PFnTree.spec_l3Keys.calls kk x.f0 A1 c1 x.f1 A2 c2 x.f2 (keysX x) w6 (Kd.C_below HK1.out HG6.out) HL1.out (Kd.C_below HK2.out HG6.out) HL2.out HKK.out)
  go_wp2_with fail
  refine HCK.out.mono ?_
  rintro e w7 ⟨v, rfl, hr, hb7⟩
  obtain ⟨q, hq⟩ : ∃ q, (keysX x).length = q := ⟨_, rfl⟩
  have hq2 : q ≤ 20000 := by omega
  obtain ⟨DK, cK, eK⟩ := Kd.R_slice hr
  rw [hq] at eK
  subst eK
  have HQ := Aside0.mk hq
  have HR := Aside0.mk hr
  have HO7 := Aside0.mk (Kd.R_below HO.out hb7)
  have HB7 := Aside0.mk (below_step HB6.out hb7)
  have HNEW := Aside0.mk (show ∀ k, v1.ownBlock = some k → k < w6.heap.size from fun k hk => Kd.R_lt HO.out k hk)
  clear hb7 hr hq y0 y1 y2 hfew
  go_wp2_with fail
  go_loopw [9, 11] (fun n i wr => ∃ (k : Nat) (vo : Value), k ≤ q ∧ i = .int .i64 k ∧ vo = n ∧ Aside0 (Kd.R Kd.string 9 wr w.heap.size (fun k => k < w6.heap.size ∨ w7.heap.size ≤ k) vo (((keysX x).take k).filter (inB lo hi))) ∧ Aside0 (Below w.heap.size w wr) ∧ Aside0 (w7.heap.size ≤ wr.heap.size) ∧ Aside0 (Kd.R Kd.string 9 wr w6.heap.size (fun k => w6.heap.size ≤ k ∧ k < w7.heap.size) (.slice DK q cK) (keysX x))) (fun _ i _ => q - (intOf i).toNat)
  case atStart => exact ⟨0, v1, Nat.zero_le _, rfl, rfl, ⟨Kd.R_mono (Kd.R_tight rfl HO7.out) (fun k hk => .inl (HNEW.out k hk.symm))⟩, HB7, ⟨Nat.le_refl _⟩, ⟨Kd.R_mono (Kd.R_bound HR.out) (fun k hk => ⟨hk.2.1, hk.2.2.1⟩)⟩⟩
  case round =>
    obtain ⟨k, vo, hk, rfl, rfl, ho, hb, HS7, hkeys⟩ := hrel
    by_cases hlt : k < q
    · obtain ⟨y, hy⟩ : ∃ y, (keysX x)[k]? = some y := ⟨_, List.getElem?_eq_getElem (by rw [HQ.out]; exact hlt)⟩
      have hql : 0 < (keysX x).length := by rw [HQ.out]; omega
      obtain ⟨g, rfl, HKEY⟩ := str_at hkeys.out hql
      have ck : wr.cell? ⟨g, k, none⟩ = some (.string y) := HKEY k y hy
      have i1 : (k : Int) < (q : Int) := by omega
      have HFT := Aside0.mk (filter_take (inB lo hi) (keysX x) k y hy)
      have hfl : (((keysX x).take k).filter (inB lo hi)).length ≤ k := Nat.le_trans (List.length_filter_le _ _) (List.length_take_le _ _)
      have HFL := Aside0.mk (show ((((keysX x).take k).filter (inB lo hi)).length + 1) * 16 ≤ 140737488355328 by omega)
      have HNE := Aside0.mk (show ∀ j, vo.ownBlock = some j → ¬ (w6.heap.size ≤ j ∧ j < w7.heap.size) from fun j hj => by have := ho.out.1 j hj; omega)
      clear hql hy HKEY hfl
      cases hin : inB lo hi y with
      | true =>
        rw [hin] at HFT
        unfold inB at hin
        rw [Bool.and_eq_true, Bool.or_eq_true] at hin
        obtain ⟨g1, g2⟩ := hin
        have o1 : Op.bytesLess y.toList lo.toList = false := by unfold ltB at g1; simpa using g1
        have g3 : hi.toList.isEmpty = true ∨ (hi.toList.isEmpty = false ∧ Op.bytesLess y.toList hi.toList = true) := by
          cases hq : hi.toList.isEmpty with
          | true => exact .inl rfl
          | false => rw [hq] at g2; exact .inr ⟨rfl, g2.resolve_left (by simp)⟩
        clear g1 g2
        rcases g3 with o2 | ⟨o2, o3⟩
        all_goals
          go_wp2_with ((with_reducible refine gate_builtin (b := .append) (xs := #[.tmp 47, .tmp 52]) rfl ?_); at_builtin; go_must (refine Kd.R_append Kd.string (w0 := w) w.heap.size rfl (.tmp 47) (.tmp 52) 35 9 (.string ⟨#[]⟩) 16 rfl Try.underlying35 PFnTree.info9 rfl (by decide) (by decide) vo _ y [.string y] (fun k => k < w6.heap.size ∨ w7.heap.size ≤ k) (fun _ => False) rfl rfl rfl (fun _ h => h.elim) (fun k hk => .inr (Nat.le_trans HS7.out hk)) ho.out hb.out hb.out.size HFL.out ?_; intro v1 w1 hI hb1 hg hat; have HI := Aside0.mk hI; have HB1 := Aside0.mk hb1; have HS8 := Aside0.mk (Nat.le_trans HS7.out hg.size); have HKE := Aside0.mk (Kd.R_grown hkeys.out hg (fun j hj e => HNE.out j e.symm hj)); clear hI hb1 hg hat))
          go_wp2
          go_roundw
          case rel => exact ⟨k + 1, _, by omega, by go_num, rfl, by rw [HFT.out]; exact HI, HB1, HS8, HKE⟩
          case measure => simp [intOf]; omega
      | false =>
        rw [hin] at HFT
        unfold inB at hin
        have hor : (Op.bytesLess y.toList lo.toList = true) ∨ (Op.bytesLess y.toList lo.toList = false ∧ hi.toList.isEmpty = false ∧ Op.bytesLess y.toList hi.toList = false) := by
          cases h1 : Op.bytesLess y.toList lo.toList with
          | true => exact .inl rfl
          | false =>
            unfold ltB at hin
            rw [h1] at hin
            simp only [Bool.not_false, Bool.true_and, Bool.or_eq_false_iff] at hin
            exact .inr ⟨rfl, hin.1, hin.2⟩
        clear hin
        rcases hor with o1 | ⟨o1, o2, o3⟩
        all_goals
          go_wp2
          go_roundw
          case rel => exact ⟨k + 1, _, by omega, by go_num, rfl, by rw [HFT.out]; simpa using ho, hb, HS7, hkeys⟩
          case measure => simp [intOf]; omega
    · obtain rfl : k = q := by omega
      have e1 : (keysX x).take k = keysX x := List.take_of_length_le (by rw [HQ.out]; omega)
      rw [e1] at ho
      clear e1 hlt
      go_wp2
      go_ret
      exact ⟨_, rfl, Kd.R_mono ho.out (fun _ _ => trivial), hb.out⟩
set_option maxHeartbeats 1000000 in
set_option maxRecDepth 100000 in
theorem specRange_no (A : Option Addr) (c : Nat) (ns : List TN) (lo hi : ByteArray) (w : World)
    (HC : Aside0 (Calls Try.prog 28 #[.agg #[.slice A ns.length c]] (w.alloc (.cells #[.slice A ns.length c] 29)) (fun e w' => OfNo (w.alloc (.cells #[.slice A ns.length c] 29)) e w'))) :
    Calls Try.prog 14 #[.agg #[.slice A ns.length c], .string lo, .string hi] w (fun e w' => ∃ v, e = .returned v ∧ Kd.R Kd.string 9 w' w.heap.size (fun _ => True) v [] ∧ Below w.heap.size w w') := by
  go_enter Try.func14, Try.ntmps14
  go_wp2_with fail
  refine HC.out.mono ?_
  rintro e w5 ⟨x, A1, c1, A2, c2, rfl, hj, K1, L1, K2, L2, hfew, hsz⟩
  have HB5 := Aside0.mk hj
  obtain ⟨kk, hkk⟩ := (l3Keys_ev x (by omega) (by omega)).rounds
  clear hj HC hsz
  have Y5 := Aside0.mk (blk_new w5 (.cells #[.bool x.f0, .slice A1 x.f1.length c1, .slice A2 x.f2.length c2] 53))
  have HW5 := Aside0.mk (below_alloc (below_step (below_alloc (Below.refl w.heap.size w) (.cells #[.slice A ns.length c] 29)) HB5.out) (.cells #[.bool x.f0, .slice A1 x.f1.length c1, .slice A2 x.f2.length c2] 53))
  have HK1 := Aside0.mk (Kd.C_below K1 (below_alloc (Below.refl w5.heap.size w5) (.cells #[.bool x.f0, .slice A1 x.f1.length c1, .slice A2 x.f2.length c2] 53)))
  have HK2 := Aside0.mk (Kd.C_below K2 (below_alloc (Below.refl w5.heap.size w5) (.cells #[.bool x.f0, .slice A1 x.f1.length c1, .slice A2 x.f2.length c2] 53)))
  have HL1 := Aside0.mk L1
  have HL2 := Aside0.mk L2
  have HKK := Aside0.mk hkk
  clear K1 L1 K2 L2 hkk
  go_wp2_with ((with_reducible refine gate_dst (N := 17) rfl ?_); go_must (refine Kd.R_lit Kd.string (w0 := w) w.heap.size 9 ?hg (N := 17) ?hd (xs := ([] : List ByteArray)) (inner := []) (ok := fun _ => True) (okp := fun _ => False) ?hr (Reps.none _ _) (fun _ hk => hk.elim) trivial HW5.out HW5.out.size (by simp) ?_; (case hd => rfl); (case hg => rfl); (case hr => first | (go_simp; done) | (go_simp; rfl)); intro v1 w6 ho hb hg _; have HO := Aside0.mk ho; have HB6 := Aside0.mk hb; have HG6 := Aside0.mk (below_of_none hg); have Y6 := Aside0.mk (blk_grown Y5.out hg (by simp)); clear ho hb hg; have y0 : w6.cell? ⟨w5.heap.size, 0, none⟩ = some (.bool x.f0) := (blkcell Y6.out 0).trans rfl; have y1 : w6.cell? ⟨w5.heap.size, 1, none⟩ = some (.slice A1 x.f1.length c1) := (blkcell Y6.out 1).trans rfl; have y2 : w6.cell? ⟨w5.heap.size, 2, none⟩ = some (.slice A2 x.f2.length c2) := (blkcell Y6.out 2).trans rfl))
  have HCK := Aside0.mk (PFnTree.spec_l3Keys.calls kk x.f0 A1 c1 x.f1 A2 c2 x.f2 (keysX x) w6 (Kd.C_below HK1.out HG6.out) HL1.out (Kd.C_below HK2.out HG6.out) HL2.out HKK.out)
  go_wp2_with fail
  refine HCK.out.mono ?_
  rintro e w7 ⟨v, rfl, hr, hb7⟩
  obtain ⟨q, hq⟩ : ∃ q, (keysX x).length = q := ⟨_, rfl⟩
  have hq2 : q ≤ 20000 := by omega
  obtain ⟨DK, cK, eK⟩ := Kd.R_slice hr
  rw [hq] at eK
  subst eK
  have HQ := Aside0.mk hq
  have HR := Aside0.mk hr
  have HO7 := Aside0.mk (Kd.R_below HO.out hb7)
  have HB7 := Aside0.mk (below_step HB6.out hb7)
  have HNEW := Aside0.mk (show ∀ k, v1.ownBlock = some k → k < w6.heap.size from fun k hk => Kd.R_lt HO.out k hk)
  clear hb7 hr hq y0 y1 y2 hfew
  go_wp2_with fail
  go_loopw [9, 11] (fun n i wr => i = .int .i64 0 ∧ n = v1 ∧ wr = w7) (fun _ _ _ => 0)
  case atStart => exact ⟨rfl, rfl, rfl⟩
  case round =>
    obtain ⟨rfl, rfl, rfl⟩ := hrel
    go_wp2
    go_ret
    exact ⟨_, rfl, HO7.out, HB7.out⟩

theorem specRange_any (A : Option Addr) (c : Nat) (ns : List TN) (lo hi : ByteArray) (w : World) (hns : Kd.C kTN w A ns.length ns) (hcap : ns.length ≤ c) :
    Calls Try.prog 14 #[.agg #[.slice A ns.length c], .string lo, .string hi] w (fun e w' => ∃ v, e = .returned v ∧ Kd.R Kd.string 9 w' w.heap.size (fun _ => True) v (rangeS ns lo hi) ∧ Below w.heap.size w w') := by
  have HC := Aside0.mk (of_any A c ns (w.alloc (.cells #[.slice A ns.length c] 29)) (Kd.C_below hns (below_alloc (Below.refl _ _) _)) hcap)
  unfold rangeS
  cases h : specX ns with
  | none =>
    rw [h] at HC
    exact specRange_no A c ns lo hi w HC
  | some x =>
    rw [h] at HC
    obtain ⟨_, hg, hk⟩ := spec_root ns x h
    exact specRange_yes A c ns lo hi w x (by rw [← hk]; exact hg.few) (spec_size ns x h) HC
theorem range_same (ns : List TN) (lo hi : ByteArray) : rangeS ns lo hi = rangeP ns lo hi := by
  unfold rangeS rangeP
  cases h : specX ns with
  | none => rw [spec_root_none ns h]
  | some x =>
    obtain ⟨h1, _, h3⟩ := spec_root ns x h
    rw [h1]
    simp only
    rw [h3]
theorem range_few (ns : List TN) (lo hi : ByteArray) : (rangeP ns lo hi).length ≤ 20000 := by
  unfold rangeP
  cases h : rootP ns with
  | none => simp
  | some t => exact Nat.le_trans (List.length_filter_le _ _) (root_good ns t h).1.few
end Go.Proofs.Ytnfaiblhjgmjgaa
