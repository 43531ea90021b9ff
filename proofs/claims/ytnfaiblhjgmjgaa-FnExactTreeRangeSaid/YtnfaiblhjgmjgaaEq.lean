/-
  The laws' comparers, where both sides read as one list: they say yes.
-/
import Derived.Test.YtnfaiblhjgmjgaaBase
import Derived.Deep.QuietTactic
import Derived.BigQuiet
import Derived.Outline
namespace Go.Proofs.Ytnfaiblhjgmjgaa
open Go.RowKit Go.Proofs.YtnfaiblhjgmjgaaW.PrintWords

set_option maxHeartbeats 1000000 in
set_option maxRecDepth 100000 in
theorem eqStringS_same (A : Option Addr) (c : Nat) (B : Option Addr) (d : Nat) (ks : List ByteArray) (w : World) (ha : Kd.C Kd.string w A ks.length ks) (hb : Kd.C Kd.string w B ks.length ks) :
    Calls Try.prog 16 #[.slice A ks.length c, .slice B ks.length d] w fun e w' => e = .returned (.bool true) ∧ Below w.heap.size w w' := by
  have hm := ha.2.1
  have HA := Aside0.mk ha
  have HB := Aside0.mk hb
  clear ha hb
  go_enter Try.func16, Try.ntmps16
  go_wp2
  go_loopw [5] (fun iv wr => ∃ i : Nat, i ≤ ks.length ∧ iv = .int .i64 i ∧ Aside0 (Below w.heap.size w wr)) (fun iv _ => ks.length - (intOf iv).toNat)
  case atStart => exact ⟨0, Nat.zero_le _, rfl, ⟨Below.refl _ _⟩⟩
  case round =>
    obtain ⟨i, hil, rfl, hb⟩ := hrel
    by_cases hlt : i < ks.length
    · obtain ⟨x, hx⟩ : ∃ x, ks[i]? = some x := ⟨_, List.getElem?_eq_getElem hlt⟩
      obtain ⟨ad, c', rfl, _, hK, hcell⟩ := Kd.C_get HA.out (⟨#[]⟩ : ByteArray) (i : Int) (by omega) (by omega)
      have hK' : c' = [(Value.string x)] := by
        have := hK
        rw [Int.toNat_natCast, List.getD_eq_getElem?_getD, hx] at this
        exact this
      subst hK'
      have hc0 := hcell 0 _ rfl
      have hcw : wr.cell? (ad.add i) = some (Value.string x) := pw_cell_below hb.out (by simpa [Kd.string, Kd.scalar] using hc0)
      obtain ⟨ad2, c2, rfl, _, hK2, hcell2⟩ := Kd.C_get HB.out (⟨#[]⟩ : ByteArray) (i : Int) (by omega) (by omega)
      have hK2' : c2 = [(Value.string x)] := by
        have := hK2
        rw [Int.toNat_natCast, List.getD_eq_getElem?_getD, hx] at this
        exact this
      subst hK2'
      have hd0 := hcell2 0 _ rfl
      have hdw : wr.cell? (ad2.add i) = some (Value.string x) := pw_cell_below hb.out (by simpa [Kd.string, Kd.scalar] using hd0)
      have z1 : (0 : Int) ≤ (i : Int) := Int.natCast_nonneg _
      have z2 : (i : Int) < (ks.length : Int) := by omega
      clear hc0 hcell hK hx hd0 hcell2 hK2
      go_wp2
      go_quiet (fail)
      go_wp2
      go_roundw
      case rel => exact ⟨i + 1, by omega, by go_num, ⟨pw_below_drewN hb.out _⟩⟩
      case measure => simp [intOf]; omega
    · go_wp2
      go_ret
      exact ⟨rfl, hb.out⟩

set_option maxHeartbeats 1000000 in
set_option maxRecDepth 100000 in
theorem eqInt64S_same (A : Option Addr) (c : Nat) (B : Option Addr) (d : Nat) (ks : List Int) (w : World) (ha : Kd.C (Kd.int .i64) w A ks.length ks) (hb : Kd.C (Kd.int .i64) w B ks.length ks) :
    Calls Try.prog 71 #[.slice A ks.length c, .slice B ks.length d] w fun e w' => e = .returned (.bool true) ∧ Below w.heap.size w w' := by
  have hm := ha.2.1
  have HA := Aside0.mk ha
  have HB := Aside0.mk hb
  clear ha hb
  go_enter Try.func71, Try.ntmps71
  go_wp2
  go_loopw [5] (fun iv wr => ∃ i : Nat, i ≤ ks.length ∧ iv = .int .i64 i ∧ Aside0 (Below w.heap.size w wr)) (fun iv _ => ks.length - (intOf iv).toNat)
  case atStart => exact ⟨0, Nat.zero_le _, rfl, ⟨Below.refl _ _⟩⟩
  case round =>
    obtain ⟨i, hil, rfl, hb⟩ := hrel
    by_cases hlt : i < ks.length
    · obtain ⟨x, hx⟩ : ∃ x, ks[i]? = some x := ⟨_, List.getElem?_eq_getElem hlt⟩
      obtain ⟨ad, c', rfl, _, hK, hcell⟩ := Kd.C_get HA.out (0 : Int) (i : Int) (by omega) (by omega)
      have hK' : c' = [(Value.int .i64 x)] := by
        have := hK
        rw [Int.toNat_natCast, List.getD_eq_getElem?_getD, hx] at this
        exact this
      subst hK'
      have hc0 := hcell 0 _ rfl
      have hcw : wr.cell? (ad.add i) = some (Value.int .i64 x) := pw_cell_below hb.out (by simpa [Kd.int, Kd.scalar] using hc0)
      obtain ⟨ad2, c2, rfl, _, hK2, hcell2⟩ := Kd.C_get HB.out (0 : Int) (i : Int) (by omega) (by omega)
      have hK2' : c2 = [(Value.int .i64 x)] := by
        have := hK2
        rw [Int.toNat_natCast, List.getD_eq_getElem?_getD, hx] at this
        exact this
      subst hK2'
      have hd0 := hcell2 0 _ rfl
      have hdw : wr.cell? (ad2.add i) = some (Value.int .i64 x) := pw_cell_below hb.out (by simpa [Kd.int, Kd.scalar] using hd0)
      have z1 : (0 : Int) ≤ (i : Int) := Int.natCast_nonneg _
      have z2 : (i : Int) < (ks.length : Int) := by omega
      clear hc0 hcell hK hx hd0 hcell2 hK2
      go_wp2
      go_quiet (fail)
      go_wp2
      go_roundw
      case rel => exact ⟨i + 1, by omega, by go_num, ⟨pw_below_drewN hb.out _⟩⟩
      case measure => simp [intOf]; omega
    · go_wp2
      go_ret
      exact ⟨rfl, hb.out⟩

set_option maxHeartbeats 1000000 in
set_option maxRecDepth 100000 in
theorem eqTNode_same (t : TN) (A1 : Option Addr) (c1 : Nat) (A2 : Option Addr) (c2 : Nat) (B1 : Option Addr) (d1 : Nat) (B2 : Option Addr) (d2 : Nat) (w : World) (k1 : Kd.C Kd.string w A1 t.f1.length t.f1) (k2 : Kd.C (Kd.int .i64) w A2 t.f2.length t.f2)
    (g1 : Kd.C Kd.string w B1 t.f1.length t.f1) (g2 : Kd.C (Kd.int .i64) w B2 t.f2.length t.f2) :
    Calls Try.prog 53 #[.agg #[.bool t.f0, .slice A1 t.f1.length c1, .slice A2 t.f2.length c2, .int .i64 t.f3], .agg #[.bool t.f0, .slice B1 t.f1.length d1, .slice B2 t.f2.length d2, .int .i64 t.f3]] w
      fun e w' => e = .returned (.bool true) ∧ Below w.heap.size w w' := by
  obtain ⟨W2, hW2⟩ : ∃ W2 : World, W2 = (w.alloc (.cells #[.bool t.f0, .slice A1 t.f1.length c1, .slice A2 t.f2.length c2, .int .i64 t.f3] 89)).alloc (.cells #[.bool t.f0, .slice B1 t.f1.length d1, .slice B2 t.f2.length d2, .int .i64 t.f3] 89) := ⟨_, rfl⟩
  have hb2 : Below w.heap.size w W2 := by rw [hW2]; exact below_alloc (below_alloc (Below.refl _ _) _) _
  have N0 := Aside0.mk (show W2.heap[w.heap.size]? = some (.cells #[.bool t.f0, .slice A1 t.f1.length c1, .slice A2 t.f2.length c2, .int .i64 t.f3] 89 (0, 0)) by rw [hW2]; exact blk_alloc (blk_new w _) _)
  have N1 := Aside0.mk (show W2.heap[w.heap.size + 1]? = some (.cells #[.bool t.f0, .slice B1 t.f1.length d1, .slice B2 t.f2.length d2, .int .i64 t.f3] 89 (0, 0)) by
    rw [hW2]
    have := blk_new (w.alloc (.cells #[.bool t.f0, .slice A1 t.f1.length c1, .slice A2 t.f2.length c2, .int .i64 t.f3] 89)) (.cells #[.bool t.f0, .slice B1 t.f1.length d1, .slice B2 t.f2.length d2, .int .i64 t.f3] 89)
    rw [World.size_alloc] at this
    exact this)
  have HC := Aside0.mk (eqStringS_same A1 c1 B1 d1 t.f1 W2 (Kd.C_below k1 hb2) (Kd.C_below g1 hb2))
  have K2 := Aside0.mk k2
  have G2 := Aside0.mk g2
  have HB2 := Aside0.mk hb2
  have HW2 := Aside0.mk hW2
  have hbb : (t.f0 != t.f0) = false := by simp
  clear k1 k2 g1 g2 hb2 hW2
  go_enter Try.func53, Try.ntmps53
  go_wp2_with fail
  rw [← HW2.out]
  refine HC.out.mono ?_
  rintro e w1 ⟨rfl, hb1⟩
  have HB1 := Aside0.mk hb1
  have n0 := Aside0.mk (blk_below N0.out hb1)
  have n1 := Aside0.mk (blk_below N1.out hb1)
  clear hb1
  have m2 : w1.cell? ⟨w.heap.size, 2, none⟩ = some (.slice A2 t.f2.length c2) := (blkcell n0.out 2).trans rfl
  have x2 : w1.cell? ⟨w.heap.size + 1, 2, none⟩ = some (.slice B2 t.f2.length d2) := (blkcell n1.out 2).trans rfl
  have HC2 := Aside0.mk (eqInt64S_same A2 c2 B2 d2 t.f2 w1 (Kd.C_below K2.out (below_step HB2.out HB1.out)) (Kd.C_below G2.out (below_step HB2.out HB1.out)))
  go_wp2_with fail
  refine HC2.out.mono ?_
  rintro e w3 ⟨rfl, hb3⟩
  have HB3 := Aside0.mk hb3
  have m3 : w3.cell? ⟨w.heap.size, 3, none⟩ = some (.int .i64 t.f3) := (blkcell (blk_below n0.out hb3) 3).trans rfl
  have x3 : w3.cell? ⟨w.heap.size + 1, 3, none⟩ = some (.int .i64 t.f3) := (blkcell (blk_below n1.out hb3) 3).trans rfl
  clear hb3 m2 x2
  go_wp2
  go_ret
  exact ⟨rfl, below_step (below_step HB2.out HB1.out) HB3.out⟩

set_option maxHeartbeats 1000000 in
set_option maxRecDepth 100000 in
theorem eqTNodeS_same (A : Option Addr) (c : Nat) (B : Option Addr) (d : Nat) (ns : List TN) (w : World) (ha : Kd.C kTN w A ns.length ns) (hb : Kd.C kTN w B ns.length ns) :
    Calls Try.prog 31 #[.slice A ns.length c, .slice B ns.length d] w fun e w' => e = .returned (.bool true) ∧ Below w.heap.size w w' := by
  have hm := ha.2.1
  have HA := Aside0.mk ha
  have HB := Aside0.mk hb
  clear ha hb
  go_enter Try.func31, Try.ntmps31
  go_wp2
  go_loopw [5] (fun iv wr => ∃ i : Nat, i ≤ ns.length ∧ iv = .int .i64 i ∧ Aside0 (Below w.heap.size w wr)) (fun iv _ => ns.length - (intOf iv).toNat)
  case atStart => exact ⟨0, Nat.zero_le _, rfl, ⟨Below.refl _ _⟩⟩
  case round =>
    obtain ⟨i, hil, rfl, hb⟩ := hrel
    by_cases hlt : i < ns.length
    · obtain ⟨x, hx⟩ : ∃ x, ns[i]? = some x := ⟨_, List.getElem?_eq_getElem hlt⟩
      have hrd : PFnTree.rd_T89 ns (i : Int) = x := by simp [PFnTree.rd_T89, List.getD_eq_getElem?_getD, hx]
      obtain ⟨ad, A1, c1, A2, c2, rfl, e0, e1, e2, e3, l1, k1, l2, k2⟩ := PFnTree.at_T89 HA.out (i : Int) (by omega) (by omega)
      obtain ⟨ad', B1, d1, B2, d2, rfl, f0, f1, f2, f3, m1, g1, m2, g2⟩ := PFnTree.at_T89 HB.out (i : Int) (by omega) (by omega)
      rw [hrd] at e0 e1 e2 e3 l1 k1 l2 k2 f0 f1 f2 f3 m1 g1 m2 g2
      have b0 := pw_cell_below hb.out e0
      have b1 := pw_cell_below hb.out e1
      have b2 := pw_cell_below hb.out e2
      have b3 := pw_cell_below hb.out e3
      have q0 := pw_cell_below hb.out f0
      have q1 := pw_cell_below hb.out f1
      have q2 := pw_cell_below hb.out f2
      have q3 := pw_cell_below hb.out f3
      rw [Int.toNat_natCast] at b0 b1 b2 b3 q0 q1 q2 q3
      have z1 : (0 : Int) ≤ (i : Int) := Int.natCast_nonneg _
      have z2 : (i : Int) < (ns.length : Int) := by omega
      have HC := Aside0.mk (fun n => eqTNode_same x A1 c1 A2 c2 B1 d1 B2 d2 (wr.drewN n) (Kd.C_below k1 (pw_below_drewN hb.out n)) (Kd.C_below k2 (pw_below_drewN hb.out n)) (Kd.C_below g1 (pw_below_drewN hb.out n)) (Kd.C_below g2 (pw_below_drewN hb.out n)))
      clear e0 e1 e2 e3 k1 k2 hx hrd f0 f1 f2 f3 g1 g2
      go_wp2
      go_region_with (go_at_call 53; refine (HC.out 1).mono ?_; rintro e w1 ⟨rfl, hb1⟩; have HB1 := Aside0.mk hb1; clear hb1)
      all_goals
        go_wp2
        go_roundw
        case rel => exact ⟨i + 1, by omega, by go_num, ⟨below_step (pw_below_drewN hb.out _) HB1.out⟩⟩
        case measure => simp [intOf]; omega
    · go_wp2
      go_ret
      exact ⟨rfl, hb.out⟩

set_option maxHeartbeats 400000 in
set_option maxRecDepth 100000 in
theorem eqTree_same (A : Option Addr) (c : Nat) (B : Option Addr) (d : Nat) (ns : List TN) (w : World) (ha : Kd.C kTN w A ns.length ns) (hb : Kd.C kTN w B ns.length ns) :
    Calls Try.prog 11 #[.agg #[.slice A ns.length c], .agg #[.slice B ns.length d]] w fun e w' => e = .returned (.bool true) ∧ Below w.heap.size w w' := by
  have hb2 : Below w.heap.size w ((w.alloc (.cells #[.slice A ns.length c] 29)).alloc (.cells #[.slice B ns.length d] 29)) := below_alloc (below_alloc (Below.refl _ _) _) _
  have HC := Aside0.mk (eqTNodeS_same A c B d ns _ (Kd.C_below ha hb2) (Kd.C_below hb hb2))
  have HB2 := Aside0.mk hb2
  clear ha hb hb2
  go_enter Try.func11, Try.ntmps11
  go_wp2_with fail
  refine HC.out.mono ?_
  rintro e w1 ⟨rfl, hb1⟩
  have HB1 := Aside0.mk hb1
  clear hb1
  go_wp2
  go_ret
  exact ⟨rfl, below_step HB2.out HB1.out⟩
end Go.Proofs.Ytnfaiblhjgmjgaa
