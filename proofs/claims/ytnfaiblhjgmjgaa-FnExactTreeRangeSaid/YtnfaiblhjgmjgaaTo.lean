/-
  The laws' copiers: a tree argument copied into new memory.
-/
import Derived.Test.YtnfaiblhjgmjgaaBase
import Derived.Outline
namespace Go.Proofs.Ytnfaiblhjgmjgaa
open Go.RowKit Go.Proofs.YtnfaiblhjgmjgaaW.PrintWords

theorem info_toStringS : (Try.prog.info? 9).map (fun i => (i.zero, i.size, i.bytes)) = some (some (.string ⟨#[]⟩), 1, 16) := by kernel_rfl
set_option maxHeartbeats 1000000 in
set_option maxRecDepth 100000 in
theorem toStringS_any (A : Option Addr) (c : Nat) (ks : List ByteArray) (w : World) (hk : Kd.C Kd.string w A ks.length ks) (hl : ks.length ≤ 1048576) :
    Calls Try.prog 69 #[.slice A ks.length c] w fun e w' => ∃ v, e = .returned v ∧ Kd.R Kd.string 9 w' w.heap.size (fun _ => True) v ks ∧ Below w.heap.size w w' := by
  have HK := Aside0.mk hk
  clear hk
  go_enter Try.func69, Try.ntmps69
  go_wp2_with ((with_reducible refine gate_dst (N := 7) rfl ?_); refine Kd.R_make Kd.string (w0 := w) w.heap.size 9 rfl (N := 7) rfl 35 (.tmp 6) (.tmp 6) rfl (ks.length : Int) rfl rfl Try.underlying35 (.string ⟨#[]⟩) 16 info_toStringS rfl (by decide) (by decide) (⟨#[]⟩ : ByteArray) (ok := fun _ => True) (okp := fun _ => True) rfl (fun _ h => h) trivial (Int.natCast_nonneg _) (by rw [Int.toNat_natCast]; omega) (Below.refl _ _) (Nat.le_refl _) ?_; intro v1 w1 hR hB _ hfresh; have HR := Aside0.mk hR; have HB := Aside0.mk hB; clear hR hB hfresh)
  have hR0 := HR.out
  rw [Int.toNat_natCast] at hR0
  by_cases hz : ks.length = 0
  · have hks : ks = [] := List.eq_nil_of_length_eq_zero hz
    have hRz : Kd.R Kd.string 9 w1 w.heap.size (fun _ => True) v1 ks := by rw [hz] at hR0; rw [hks]; exact hR0
    have HRZ := Aside0.mk hRz
    clear hR0 hRz
    subst hks
    go_loopw [4] (fun iv wr => iv = .int .i64 0 ∧ w1 = wr) (fun _ _ => 0)
    case atStart => exact ⟨rfl, rfl⟩
    case round =>
      obtain ⟨rfl, rfl⟩ := hrel
      go_wp2
      go_ret
      exact ⟨v1, rfl, HRZ.out, HB.out⟩
  · obtain ⟨g, cap, hv, hgb, hgl, _⟩ := Kd.R_form hR0 (by simp; omega)
    rw [List.length_replicate] at hv
    subst hv
    have HR0 := Aside0.mk hR0
    clear hR0 HR
    go_loopw [4] (fun iv wr => ∃ i : Nat, i ≤ ks.length ∧ iv = .int .i64 i ∧ Aside0 (Below w.heap.size w wr) ∧ Aside0 (Kd.R Kd.string 9 wr w.heap.size (fun _ => True) (.slice (some ⟨g, 0, none⟩) ks.length cap) (ks.take i ++ List.replicate (ks.length - i) (⟨#[]⟩ : ByteArray)))) (fun iv _ => ks.length - (intOf iv).toNat)
    case atStart => exact ⟨0, Nat.zero_le _, rfl, HB, ⟨by simpa using HR0.out⟩⟩
    case round =>
      obtain ⟨i, hil, rfl, hb, hr⟩ := hrel
      by_cases hlt : i < ks.length
      · obtain ⟨x, hx⟩ : ∃ x, ks[i]? = some x := ⟨_, List.getElem?_eq_getElem hlt⟩
        obtain ⟨ad, c', rfl, _, hK, hcell⟩ := Kd.C_get HK.out (⟨#[]⟩ : ByteArray) (i : Int) (by omega) (by omega)
        have hK' : c' = [Value.string x] := by
          have := hK
          rw [Int.toNat_natCast, List.getD_eq_getElem?_getD, hx] at this
          exact this
        subst hK'
        have hc0 := hcell 0 _ rfl
        have hcw : wr.cell? (ad.add i) = some (Value.string x) := pw_cell_below hb.out (by simpa [Kd.string, Kd.scalar] using hc0)
        have hown := Kd.own_of_R hr.out
        have hlen : (ks.take i ++ List.replicate (ks.length - i) (⟨#[]⟩ : ByteArray)).length = ks.length := by simp; omega
        rw [hlen] at hown
        obtain ⟨hat1, hat2⟩ := own_at_of (d := (⟨#[]⟩ : ByteArray)) hown (i : Int) (by omega) (by omega)
        rw [Int.toNat_natCast] at hat1 hat2
        have hset : (ks.take i ++ List.replicate (ks.length - i) (⟨#[]⟩ : ByteArray)).set i x = ks.take (i + 1) ++ List.replicate (ks.length - (i + 1)) (⟨#[]⟩ : ByteArray) := by
          have e1 : List.replicate (ks.length - i) (⟨#[]⟩ : ByteArray) = (⟨#[]⟩ : ByteArray) :: List.replicate (ks.length - (i + 1)) (⟨#[]⟩ : ByteArray) := by
            rw [show ks.length - i = (ks.length - (i + 1)) + 1 by omega, List.replicate_succ]
          have e2 : ks.take (i + 1) = ks.take i ++ [x] := by rw [List.take_add_one, hx]; rfl
          rw [e1, e2, List.set_append_right _ _ (by rw [List.length_take]; omega), List.length_take, Nat.min_eq_left (by omega), Nat.sub_self]
          simp
        have hnew := own_store_of (enc := (Value.string)) hown (i : Int) x
        rw [Int.toNat_natCast, hset] at hnew
        have HN := Aside0.mk hnew.1
        have HL := Aside0.mk (show (ks.take (i + 1) ++ List.replicate (ks.length - (i + 1)) (⟨#[]⟩ : ByteArray)).length = ks.length by simp; omega)
        clear hc0 hcell hK hx hown hlen hset hnew
        go_wp2
        go_roundw
        case rel =>
          refine ⟨i + 1, by omega, by go_num, ⟨below_set hb.out hgb⟩, ⟨?_⟩⟩
          refine Kd.R_of_own ?_ (fun _ _ => trivial)
          rw [HL.out]
          exact HN.out
        case measure => simp [intOf]; omega
      · have e : ks.take i ++ List.replicate (ks.length - i) (⟨#[]⟩ : ByteArray) = ks := by rw [List.take_of_length_le (by omega), show ks.length - i = 0 by omega]; simp
        have hfin := hr.out
        rw [e] at hfin
        have HF := Aside0.mk hfin
        clear hfin e
        go_wp2
        go_ret
        exact ⟨_, rfl, HF.out, hb.out⟩

theorem info_toInt64S : (Try.prog.info? 2).map (fun i => (i.zero, i.size, i.bytes)) = some (some (.int .i64 0), 1, 8) := by kernel_rfl
set_option maxHeartbeats 1000000 in
set_option maxRecDepth 100000 in
theorem toInt64S_any (A : Option Addr) (c : Nat) (ks : List Int) (w : World) (hk : Kd.C (Kd.int .i64) w A ks.length ks) (hl : ks.length ≤ 1048576) :
    Calls Try.prog 70 #[.slice A ks.length c] w fun e w' => ∃ v, e = .returned v ∧ Kd.R (Kd.int .i64) 2 w' w.heap.size (fun _ => True) v ks ∧ Below w.heap.size w w' := by
  have HK := Aside0.mk hk
  clear hk
  go_enter Try.func70, Try.ntmps70
  go_wp2_with ((with_reducible refine gate_dst (N := 7) rfl ?_); refine Kd.R_make (Kd.int .i64) (w0 := w) w.heap.size 2 rfl (N := 7) rfl 82 (.tmp 6) (.tmp 6) rfl (ks.length : Int) rfl rfl Try.underlying82 (.int .i64 0) 8 info_toInt64S rfl (by decide) (by decide) (0 : Int) (ok := fun _ => True) (okp := fun _ => True) rfl (fun _ h => h) trivial (Int.natCast_nonneg _) (by rw [Int.toNat_natCast]; omega) (Below.refl _ _) (Nat.le_refl _) ?_; intro v1 w1 hR hB _ hfresh; have HR := Aside0.mk hR; have HB := Aside0.mk hB; clear hR hB hfresh)
  have hR0 := HR.out
  rw [Int.toNat_natCast] at hR0
  by_cases hz : ks.length = 0
  · have hks : ks = [] := List.eq_nil_of_length_eq_zero hz
    have hRz : Kd.R (Kd.int .i64) 2 w1 w.heap.size (fun _ => True) v1 ks := by rw [hz] at hR0; rw [hks]; exact hR0
    have HRZ := Aside0.mk hRz
    clear hR0 hRz
    subst hks
    go_loopw [4] (fun iv wr => iv = .int .i64 0 ∧ w1 = wr) (fun _ _ => 0)
    case atStart => exact ⟨rfl, rfl⟩
    case round =>
      obtain ⟨rfl, rfl⟩ := hrel
      go_wp2
      go_ret
      exact ⟨v1, rfl, HRZ.out, HB.out⟩
  · obtain ⟨g, cap, hv, hgb, hgl, _⟩ := Kd.R_form hR0 (by simp; omega)
    rw [List.length_replicate] at hv
    subst hv
    have HR0 := Aside0.mk hR0
    clear hR0 HR
    go_loopw [4] (fun iv wr => ∃ i : Nat, i ≤ ks.length ∧ iv = .int .i64 i ∧ Aside0 (Below w.heap.size w wr) ∧ Aside0 (Kd.R (Kd.int .i64) 2 wr w.heap.size (fun _ => True) (.slice (some ⟨g, 0, none⟩) ks.length cap) (ks.take i ++ List.replicate (ks.length - i) (0 : Int)))) (fun iv _ => ks.length - (intOf iv).toNat)
    case atStart => exact ⟨0, Nat.zero_le _, rfl, HB, ⟨by simpa using HR0.out⟩⟩
    case round =>
      obtain ⟨i, hil, rfl, hb, hr⟩ := hrel
      by_cases hlt : i < ks.length
      · obtain ⟨x, hx⟩ : ∃ x, ks[i]? = some x := ⟨_, List.getElem?_eq_getElem hlt⟩
        obtain ⟨ad, c', rfl, _, hK, hcell⟩ := Kd.C_get HK.out (0 : Int) (i : Int) (by omega) (by omega)
        have hK' : c' = [Value.int .i64 x] := by
          have := hK
          rw [Int.toNat_natCast, List.getD_eq_getElem?_getD, hx] at this
          exact this
        subst hK'
        have hc0 := hcell 0 _ rfl
        have hcw : wr.cell? (ad.add i) = some (Value.int .i64 x) := pw_cell_below hb.out (by simpa [Kd.int, Kd.scalar] using hc0)
        have hown := Kd.own_of_R hr.out
        have hlen : (ks.take i ++ List.replicate (ks.length - i) (0 : Int)).length = ks.length := by simp; omega
        rw [hlen] at hown
        obtain ⟨hat1, hat2⟩ := own_at_of (d := (0 : Int)) hown (i : Int) (by omega) (by omega)
        rw [Int.toNat_natCast] at hat1 hat2
        have hset : (ks.take i ++ List.replicate (ks.length - i) (0 : Int)).set i x = ks.take (i + 1) ++ List.replicate (ks.length - (i + 1)) (0 : Int) := by
          have e1 : List.replicate (ks.length - i) (0 : Int) = (0 : Int) :: List.replicate (ks.length - (i + 1)) (0 : Int) := by
            rw [show ks.length - i = (ks.length - (i + 1)) + 1 by omega, List.replicate_succ]
          have e2 : ks.take (i + 1) = ks.take i ++ [x] := by rw [List.take_add_one, hx]; rfl
          rw [e1, e2, List.set_append_right _ _ (by rw [List.length_take]; omega), List.length_take, Nat.min_eq_left (by omega), Nat.sub_self]
          simp
        have hnew := own_store_of (enc := (Value.int .i64)) hown (i : Int) x
        rw [Int.toNat_natCast, hset] at hnew
        have HN := Aside0.mk hnew.1
        have HL := Aside0.mk (show (ks.take (i + 1) ++ List.replicate (ks.length - (i + 1)) (0 : Int)).length = ks.length by simp; omega)
        clear hc0 hcell hK hx hown hlen hset hnew
        go_wp2
        go_roundw
        case rel =>
          refine ⟨i + 1, by omega, by go_num, ⟨below_set hb.out hgb⟩, ⟨?_⟩⟩
          refine Kd.R_of_own ?_ (fun _ _ => trivial)
          rw [HL.out]
          exact HN.out
        case measure => simp [intOf]; omega
      · have e : ks.take i ++ List.replicate (ks.length - i) (0 : Int) = ks := by rw [List.take_of_length_le (by omega), show ks.length - i = 0 by omega]; simp
        have hfin := hr.out
        rw [e] at hfin
        have HF := Aside0.mk hfin
        clear hfin e
        go_wp2
        go_ret
        exact ⟨_, rfl, HF.out, hb.out⟩

theorem infoTN : (Try.prog.info? 89).map (fun i => (i.zero, i.size, i.bytes)) = some (some (.agg #[.bool false, .slice none 0 0, .slice none 0 0, .int .i64 0]), 4, 64) := by kernel_rfl
set_option maxHeartbeats 1000000 in
set_option maxRecDepth 100000 in
theorem toTNode_any (t : TN) (A1 : Option Addr) (c1 : Nat) (A2 : Option Addr) (c2 : Nat) (w : World) (k1 : Kd.C Kd.string w A1 t.f1.length t.f1) (k2 : Kd.C (Kd.int .i64) w A2 t.f2.length t.f2) (h1 : t.f1.length ≤ 1048576) (h2 : t.f2.length ≤ 1048576) :
    Calls Try.prog 50 #[.agg #[.bool t.f0, .slice A1 t.f1.length c1, .slice A2 t.f2.length c2, .int .i64 t.f3]] w fun e w' => ∃ B1 d1 B2 d2, e = .returned (.agg #[.bool t.f0, .slice B1 t.f1.length d1, .slice B2 t.f2.length d2, .int .i64 t.f3]) ∧
      Kd.R Kd.string 9 w' w.heap.size (fun _ => True) (.slice B1 t.f1.length d1) t.f1 ∧ Kd.R (Kd.int .i64) 2 w' w.heap.size (fun _ => True) (.slice B2 t.f2.length d2) t.f2 ∧ Below w.heap.size w w' := by
  obtain ⟨W3, hW3⟩ : ∃ W3 : World, W3 = ((w.alloc (.cells #[.bool t.f0, .slice A1 t.f1.length c1, .slice A2 t.f2.length c2, .int .i64 t.f3] 84)).alloc (.cells #[.bool false, .slice none 0 0, .slice none 0 0, .int .i64 0] 89)).alloc (.cells #[.bool t.f0, .slice none 0 0, .slice none 0 0, .int .i64 0] 89) := ⟨_, rfl⟩
  have hb3 : Below w.heap.size w W3 := by rw [hW3]; exact below_alloc (below_alloc (below_alloc (Below.refl _ _) _) _) _
  have hs3 : W3.heap.size = w.heap.size + 1 + 1 + 1 := by rw [hW3, World.size_alloc, World.size_alloc, World.size_alloc]
  have B0 := Aside0.mk (show W3.heap[w.heap.size]? = some (.cells #[.bool t.f0, .slice A1 t.f1.length c1, .slice A2 t.f2.length c2, .int .i64 t.f3] 84 (0, 0)) by rw [hW3]; exact blk_alloc (blk_alloc (blk_new w _) _) _)
  have B1 := Aside0.mk (show W3.heap[w.heap.size + 1]? = some (.cells #[.bool false, .slice none 0 0, .slice none 0 0, .int .i64 0] 89 (0, 0)) by
    rw [hW3]
    have := blk_new (w.alloc (.cells #[.bool t.f0, .slice A1 t.f1.length c1, .slice A2 t.f2.length c2, .int .i64 t.f3] 84)) (.cells #[.bool false, .slice none 0 0, .slice none 0 0, .int .i64 0] 89)
    rw [World.size_alloc] at this
    exact blk_alloc this _)
  have B2 := Aside0.mk (show W3.heap[w.heap.size + 1 + 1]? = some (.cells #[.bool t.f0, .slice none 0 0, .slice none 0 0, .int .i64 0] 89 (0, 0)) by
    rw [hW3]
    have := blk_new ((w.alloc (.cells #[.bool t.f0, .slice A1 t.f1.length c1, .slice A2 t.f2.length c2, .int .i64 t.f3] 84)).alloc (.cells #[.bool false, .slice none 0 0, .slice none 0 0, .int .i64 0] 89)) (.cells #[.bool t.f0, .slice none 0 0, .slice none 0 0, .int .i64 0] 89)
    rw [World.size_alloc, World.size_alloc] at this
    exact this)
  have HC := Aside0.mk (toStringS_any A1 c1 t.f1 W3 (Kd.C_below k1 hb3) h1)
  have K2 := Aside0.mk k2
  have HB3 := Aside0.mk hb3
  have HS3 := Aside0.mk hs3
  have HW3 := Aside0.mk hW3
  clear k1 k2 hb3 hs3 hW3
  go_enter Try.func50, Try.ntmps50
  go_wp2_with fail
  rw [← HW3.out]
  refine HC.out.mono ?_
  rintro e w1 ⟨v1, rfl, hr1, hb1⟩
  obtain ⟨D1, d1, hv1⟩ := Kd.R_slice hr1
  subst hv1
  have HR1 := Aside0.mk hr1
  have HB1 := Aside0.mk hb1
  have n0 := Aside0.mk (blk_below B0.out hb1)
  have n1 := Aside0.mk (blk_below B1.out hb1)
  have n2 := Aside0.mk (blk_below B2.out hb1)
  clear hr1 hb1
  have m2 : w1.cell? ⟨w.heap.size, 2, none⟩ = some (.slice A2 t.f2.length c2) := (blkcell n0.out 2).trans rfl
  have x1 : w1.cell? ⟨w.heap.size + 1 + 1, 1, none⟩ = some (.slice none 0 0) := (blkcell n2.out 1).trans rfl
  have z1 : w1.frozen? ⟨w.heap.size + 1 + 1, 1, none⟩ = false := blk_frozen n2.out 1
  have HC2 := Aside0.mk (toInt64S_any A2 c2 t.f2 (w1.setCell ⟨w.heap.size + 1 + 1, 1, none⟩ (.slice D1 t.f1.length d1)) (Kd.C_below K2.out ((below_step HB3.out HB1.out).setCell (show w.heap.size ≤ w.heap.size + 1 + 1 by omega) _)) h2)
  go_wp2_with fail
  refine HC2.out.mono ?_
  rintro e w2 ⟨v2, rfl, hr2, hb2⟩
  obtain ⟨D2, d2, hv2⟩ := Kd.R_slice hr2
  subst hv2
  have HR2 := Aside0.mk hr2
  have HB2 := Aside0.mk hb2
  have p0 := Aside0.mk (blk_below (blk_far n0.out (show w.heap.size ≠ w.heap.size + 1 + 1 by omega) _) hb2)
  have p1 := Aside0.mk (blk_below (blk_far n1.out (show w.heap.size + 1 ≠ w.heap.size + 1 + 1 by omega) _) hb2)
  have p2 := Aside0.mk (blk_below (blk_put n2.out 1 _ rfl) hb2)
  clear hr2 hb2 m2 x1 z1
  have m3 : w2.cell? ⟨w.heap.size, 3, none⟩ = some (.int .i64 t.f3) := (blkcell p0.out 3).trans rfl
  have y0 : w2.cell? ⟨w.heap.size + 1 + 1, 0, none⟩ = some (.bool t.f0) := (blkcell p2.out 0).trans rfl
  have y1 : w2.cell? ⟨w.heap.size + 1 + 1, 1, none⟩ = some (.slice D1 t.f1.length d1) := (blkcell p2.out 1).trans rfl
  have y2 : w2.cell? ⟨w.heap.size + 1 + 1, 2, none⟩ = some (.slice none 0 0) := (blkcell p2.out 2).trans rfl
  have y3 : w2.cell? ⟨w.heap.size + 1 + 1, 3, none⟩ = some (.int .i64 0) := (blkcell p2.out 3).trans rfl
  have z2 : w2.frozen? ⟨w.heap.size + 1 + 1, 2, none⟩ = false := blk_frozen p2.out 2
  have z3 : w2.frozen? ⟨w.heap.size + 1 + 1, 3, none⟩ = false := blk_frozen p2.out 3
  have r0 : w2.cell? ⟨w.heap.size + 1, 0, none⟩ = some (.bool false) := (blkcell p1.out 0).trans rfl
  have r1 : w2.cell? ⟨w.heap.size + 1, 1, none⟩ = some (.slice none 0 0) := (blkcell p1.out 1).trans rfl
  have r2 : w2.cell? ⟨w.heap.size + 1, 2, none⟩ = some (.slice none 0 0) := (blkcell p1.out 2).trans rfl
  have r3 : w2.cell? ⟨w.heap.size + 1, 3, none⟩ = some (.int .i64 0) := (blkcell p1.out 3).trans rfl
  have rz0 : w2.frozen? ⟨w.heap.size + 1, 0, none⟩ = false := blk_frozen p1.out 0
  have rz1 : w2.frozen? ⟨w.heap.size + 1, 1, none⟩ = false := blk_frozen p1.out 1
  have rz2 : w2.frozen? ⟨w.heap.size + 1, 2, none⟩ = false := blk_frozen p1.out 2
  have rz3 : w2.frozen? ⟨w.heap.size + 1, 3, none⟩ = false := blk_frozen p1.out 3
  go_wp2
  refine bodyPost_ret (v := .agg #[.bool t.f0, .slice D1 t.f1.length d1, .slice D2 t.f2.length d2, .int .i64 t.f3]) (by simp [results, Try.results50, go_sem, r0, r1, r2, r3]) rfl ?_
  have hs3 := HS3.out
  have hw1 : w.heap.size + 1 + 1 + 1 ≤ w1.heap.size := by rw [← hs3]; exact HB1.out.size
  have hw2 : w1.heap.size ≤ w2.heap.size := by have := HB2.out.size; simpa [World.setCell] using this
  refine ⟨D1, d1, D2, d2, rfl, ?_, ?_, ?_⟩
  · refine R_high HR1.out HB3.out.size (fun k h1 h2 => ?_)
    have hk : w.heap.size + 1 + 1 + 1 ≤ k := by omega
    repeat (refine (Below.heap_setCell _ _ _ _ ?_).trans ?_; · (dsimp only; omega))
    exact (HB2.out.block k (by simp [World.setCell]; exact h2)).trans (Below.heap_setCell _ _ _ _ (by dsimp only; omega))
  · refine R_high HR2.out (by simp [World.setCell]; omega) (fun k h1 h2 => ?_)
    have hk : w.heap.size + 1 + 1 + 1 ≤ k := by simp [World.setCell] at h1; omega
    repeat (refine (Below.heap_setCell _ _ _ _ ?_).trans ?_; · (dsimp only; omega))
    rfl
  · have hbw2 := below_step ((below_step HB3.out HB1.out).setCell (show w.heap.size ≤ w.heap.size + 1 + 1 by omega) _) HB2.out
    exact below_set (below_set (below_set (below_set (below_set (below_set hbw2 (by omega)) (by omega)) (by omega)) (by omega)) (by omega)) (by omega)

theorem TNsz : 0 < kTN.sz := by decide
theorem TNzero (W : World) (base : Nat) (ok : Nat → Prop) : kTN.M W base ok ⟨false, [], [], 0⟩ (Value.agg #[.bool false, .slice none 0 0, .slice none 0 0, .int .i64 0]).cells.toList :=
  PFnTree.k89_mkM W base ok ⟨false, [], [], 0⟩ (Kd.R_nil _ _ _ _ _) (Kd.R_nil _ _ _ _ _)
set_option maxHeartbeats 1000000 in
set_option maxRecDepth 100000 in
theorem toTNodeS_any (A : Option Addr) (c : Nat) (ns : List TN) (w : World) (hk : Kd.C kTN w A ns.length ns) (hl : ns.length ≤ 1048576) (hq : ∀ t ∈ ns, t.f1.length ≤ 1048576 ∧ t.f2.length ≤ 1048576) :
    Calls Try.prog 29 #[.slice A ns.length c] w fun e w' => ∃ v, e = .returned v ∧ Kd.R kTN 89 w' w.heap.size (fun _ => True) v ns ∧ Below w.heap.size w w' := by
  have HK := Aside0.mk hk
  have HQ := Aside0.mk hq
  clear hk hq
  go_enter Try.func29, Try.ntmps29
  go_wp2_with ((with_reducible refine gate_dst (N := 7) rfl ?_); refine Kd.R_make kTN (w0 := w) w.heap.size 89 rfl (N := 7) rfl 27 (.tmp 6) (.tmp 6) rfl (ns.length : Int) rfl rfl Try.underlying27 (.agg #[.bool false, .slice none 0 0, .slice none 0 0, .int .i64 0]) 64 infoTN rfl TNsz (by decide) ⟨false, [], [], 0⟩ (ok := fun _ => True) (okp := fun _ => True) (TNzero _ _ _) (fun _ h => h) trivial (Int.natCast_nonneg _) (by rw [Int.toNat_natCast]; omega) (Below.refl _ _) (Nat.le_refl _) ?_; intro v1 w1 hR hB _ hfresh; have HR := Aside0.mk hR; have HB := Aside0.mk hB; clear hR hB hfresh)
  have hR0 := HR.out
  rw [Int.toNat_natCast] at hR0
  by_cases hz : ns.length = 0
  · have hks : ns = [] := List.eq_nil_of_length_eq_zero hz
    have hRz : Kd.R kTN 89 w1 w.heap.size (fun _ => True) v1 ns := by rw [hz] at hR0; rw [hks]; exact hR0
    have HRZ := Aside0.mk hRz
    clear hR0 hRz
    subst hks
    go_loopw [4] (fun iv wr => iv = .int .i64 0 ∧ w1 = wr) (fun _ _ => 0)
    case atStart => exact ⟨rfl, rfl⟩
    case round =>
      obtain ⟨rfl, rfl⟩ := hrel
      go_wp2
      go_ret
      exact ⟨v1, rfl, HRZ.out, HB.out⟩
  · obtain ⟨g, cap, hv, hgb, hgl, _⟩ := Kd.R_form hR0 (by simp; omega)
    rw [List.length_replicate] at hv
    subst hv
    have HR0 := Aside0.mk hR0
    clear hR0 HR
    go_loopw [4] (fun iv wr => ∃ i : Nat, i ≤ ns.length ∧ iv = .int .i64 i ∧ Aside0 (Below w.heap.size w wr) ∧ Aside0 (Kd.R kTN 89 wr w.heap.size (fun _ => True) (.slice (some ⟨g, 0, none⟩) ns.length cap) (ns.take i ++ List.replicate (ns.length - i) ⟨false, [], [], 0⟩))) (fun iv _ => ns.length - (intOf iv).toNat)
    case atStart => exact ⟨0, Nat.zero_le _, rfl, HB, ⟨by simpa using HR0.out⟩⟩
    case round =>
      obtain ⟨i, hil, rfl, hb, hr⟩ := hrel
      by_cases hlt : i < ns.length
      · obtain ⟨x, hx⟩ : ∃ x, ns[i]? = some x := ⟨_, List.getElem?_eq_getElem hlt⟩
        obtain ⟨ad, A1, c1, A2, c2, rfl, e0, e1, e2, e3, l1, k1, l2, k2⟩ := PFnTree.at_T89 HK.out (i : Int) (by omega) (by omega)
        have hrd : PFnTree.rd_T89 ns (i : Int) = x := by simp [PFnTree.rd_T89, List.getD_eq_getElem?_getD, hx]
        rw [hrd] at e0 e1 e2 e3 l1 k1 l2 k2
        have b0 := pw_cell_below hb.out e0
        have b1 := pw_cell_below hb.out e1
        have b2 := pw_cell_below hb.out e2
        have b3 := pw_cell_below hb.out e3
        rw [Int.toNat_natCast] at b0 b1 b2 b3
        have hqx := HQ.out x (List.mem_of_getElem? hx)
        have HC := Aside0.mk (toTNode_any x A1 c1 A2 c2 wr (Kd.C_below k1 hb.out) (Kd.C_below k2 hb.out) hqx.1 hqx.2)
        have hset : (ns.take i ++ List.replicate (ns.length - i) (⟨false, [], [], 0⟩ : TN)).set i x = ns.take (i + 1) ++ List.replicate (ns.length - (i + 1)) ⟨false, [], [], 0⟩ := by
          have e1 : List.replicate (ns.length - i) (⟨false, [], [], 0⟩ : TN) = ⟨false, [], [], 0⟩ :: List.replicate (ns.length - (i + 1)) ⟨false, [], [], 0⟩ := by
            rw [show ns.length - i = (ns.length - (i + 1)) + 1 by omega, List.replicate_succ]
          have e2 : ns.take (i + 1) = ns.take i ++ [x] := by rw [List.take_add_one, hx]; rfl
          rw [e1, e2, List.set_append_right _ _ (by rw [List.length_take]; omega), List.length_take, Nat.min_eq_left (by omega), Nat.sub_self]
          simp
        have HSET := Aside0.mk hset
        clear e0 e1 e2 e3 k1 k2 hx hrd hqx hset
        go_wp2_with fail
        refine HC.out.mono ?_
        rintro e w2 ⟨D1, d1, D2, d2, rfl, hr1, hr2, hb2⟩
        have hrow := Kd.R_below hr.out hb2
        obtain ⟨cc, hcl, hM, hcc, hfz⟩ := Kd.R_elem hrow ⟨false, [], [], 0⟩ (i : Int) (by omega) (by omega)
        have hgl2 : g < wr.heap.size := Kd.R_lt hr.out g rfl
        have hnew := Kd.R_seg (okp := fun k => wr.heap.size ≤ k) (seg := [.bool x.f0, .slice D1 x.f1.length d1, .slice D2 x.f2.length d2, .int .i64 x.f3]) (j := 0) (x' := x) hrow (i : Int) (by omega) (by omega) hcl hcc (Nat.le_refl _) (by
          have e : cc.drop (0 + [Value.bool x.f0, .slice D1 x.f1.length d1, .slice D2 x.f2.length d2, .int .i64 x.f3].length) = [] := List.drop_eq_nil_of_le (by rw [hcl]; exact Nat.le_refl _)
          rw [e]
          exact PFnTree.k89_mkM w2 _ _ x (Kd.R_lower (Kd.R_mono (Kd.R_bound hr1) (fun k hk => hk.2.1)) hb.out.size) (Kd.R_lower (Kd.R_mono (Kd.R_bound hr2) (fun k hk => hk.2.1)) hb.out.size)) (fun k hk => ⟨trivial, by omega⟩)
        rw [Int.toNat_natCast, HSET.out] at hnew
        have HN := Aside0.mk hnew.1
        have HB2 := Aside0.mk hb2
        have hcells : ∀ j u, cc[j]? = some u → w2.cell? ⟨g, i * 4 + j, none⟩ = some u := fun j u hj => by have := hcc j u hj; rwa [Int.toNat_natCast] at this
        have hfr : ∀ j, w2.frozen? ⟨g, i * 4 + j, none⟩ = false := fun j => by have := hfz j; rwa [Int.toNat_natCast] at this
        match cc, hcl with
        | [q0, q1, q2, q3], _ =>
          have s0 : w2.cell? ⟨g, i * 4, none⟩ = some q0 := hcells 0 _ rfl
          have s1 : w2.cell? ⟨g, i * 4 + 1, none⟩ = some q1 := hcells 1 _ rfl
          have s2 : w2.cell? ⟨g, i * 4 + 2, none⟩ = some q2 := hcells 2 _ rfl
          have s3 : w2.cell? ⟨g, i * 4 + 3, none⟩ = some q3 := hcells 3 _ rfl
          have f0 : w2.frozen? ⟨g, i * 4, none⟩ = false := hfr 0
          have f1 : w2.frozen? ⟨g, i * 4 + 1, none⟩ = false := hfr 1
          have f2 : w2.frozen? ⟨g, i * 4 + 2, none⟩ = false := hfr 2
          have f3 : w2.frozen? ⟨g, i * 4 + 3, none⟩ = false := hfr 3
          clear hcells hfr hnew hM hcc hfz hrow hr1 hr2 hb2 b0 b1 b2 b3
          go_wp2
          go_roundw
          case rel =>
            refine ⟨i + 1, by omega, by go_num, ⟨?_⟩, HN⟩
            have hbw := below_step hb.out HB2.out
            exact below_set (below_set (below_set (below_set hbw hgb) hgb) hgb) hgb
          case measure => simp [intOf]; omega
      · have e : ns.take i ++ List.replicate (ns.length - i) (⟨false, [], [], 0⟩ : TN) = ns := by rw [List.take_of_length_le (by omega), show ns.length - i = 0 by omega]; simp
        have hfin := hr.out
        rw [e] at hfin
        have HF := Aside0.mk hfin
        clear hfin e
        go_wp2
        go_ret
        exact ⟨_, rfl, HF.out, hb.out⟩

set_option maxHeartbeats 1000000 in
set_option maxRecDepth 100000 in
theorem toTree_any (A : Option Addr) (c : Nat) (ns : List TN) (w : World) (hk : Kd.C kTN w A ns.length ns) (hl : ns.length ≤ 1048576) (hq : ∀ t ∈ ns, t.f1.length ≤ 1048576 ∧ t.f2.length ≤ 1048576) :
    Calls Try.prog 9 #[.agg #[.slice A ns.length c]] w fun e w' => ∃ B d, e = .returned (.agg #[.slice B ns.length d]) ∧ Kd.R kTN 89 w' w.heap.size (fun _ => True) (.slice B ns.length d) ns ∧ Below w.heap.size w w' := by
  obtain ⟨W3, hW3⟩ : ∃ W3 : World, W3 = ((w.alloc (.cells #[.slice A ns.length c] 24)).alloc (.cells #[.slice none 0 0] 29)).alloc (.cells #[.slice none 0 0] 29) := ⟨_, rfl⟩
  have hb3 : Below w.heap.size w W3 := by rw [hW3]; exact below_alloc (below_alloc (below_alloc (Below.refl _ _) _) _) _
  have hs3 : W3.heap.size = w.heap.size + 1 + 1 + 1 := by rw [hW3, World.size_alloc, World.size_alloc, World.size_alloc]
  have B1 := Aside0.mk (show W3.heap[w.heap.size + 1]? = some (.cells #[.slice none 0 0] 29 (0, 0)) by
    rw [hW3]
    have := blk_new (w.alloc (.cells #[.slice A ns.length c] 24)) (.cells #[.slice none 0 0] 29)
    rw [World.size_alloc] at this
    exact blk_alloc this _)
  have B2 := Aside0.mk (show W3.heap[w.heap.size + 1 + 1]? = some (.cells #[.slice none 0 0] 29 (0, 0)) by
    rw [hW3]
    have := blk_new ((w.alloc (.cells #[.slice A ns.length c] 24)).alloc (.cells #[.slice none 0 0] 29)) (.cells #[.slice none 0 0] 29)
    rw [World.size_alloc, World.size_alloc] at this
    exact this)
  have HC := Aside0.mk (toTNodeS_any A c ns W3 (Kd.C_below hk hb3) hl hq)
  have HB3 := Aside0.mk hb3
  have HS3 := Aside0.mk hs3
  have HW3 := Aside0.mk hW3
  clear hk hb3 hs3 hW3 hq
  go_enter Try.func9, Try.ntmps9
  go_wp2_with fail
  rw [← HW3.out]
  refine HC.out.mono ?_
  rintro e w1 ⟨v1, rfl, hr1, hb1⟩
  obtain ⟨D1, d1, hv1⟩ := Kd.R_slice hr1
  subst hv1
  have HR1 := Aside0.mk hr1
  have HB1 := Aside0.mk hb1
  have n1 := Aside0.mk (blk_below B1.out hb1)
  have n2 := Aside0.mk (blk_below B2.out hb1)
  clear hr1 hb1
  have x0 : w1.cell? ⟨w.heap.size + 1 + 1, 0, none⟩ = some (.slice none 0 0) := (blkcell n2.out 0).trans rfl
  have z0 : w1.frozen? ⟨w.heap.size + 1 + 1, 0, none⟩ = false := blk_frozen n2.out 0
  have r0 : w1.cell? ⟨w.heap.size + 1, 0, none⟩ = some (.slice none 0 0) := (blkcell n1.out 0).trans rfl
  have rz0 : w1.frozen? ⟨w.heap.size + 1, 0, none⟩ = false := blk_frozen n1.out 0
  go_wp2
  refine bodyPost_ret (v := .agg #[.slice D1 ns.length d1]) (by simp [results, Try.results9, go_sem, r0]) rfl ?_
  have hs3 := HS3.out
  refine ⟨D1, d1, rfl, ?_, ?_⟩
  · refine R_high HR1.out HB3.out.size (fun k h1 h2 => ?_)
    have hk : w.heap.size + 1 + 1 + 1 ≤ k := by omega
    repeat (refine (Below.heap_setCell _ _ _ _ ?_).trans ?_; · (dsimp only; omega))
    rfl
  · exact below_set (below_set (below_step HB3.out HB1.out) (by omega)) (by omega)
end Go.Proofs.Ytnfaiblhjgmjgaa
