/-
  The laws' own measure of a tree argument.
-/
import Derived.Test.YtnfaiblhjgmjgaaBase
import Derived.Test.YtnfaiblhjgmjgaaPFnTreex0
namespace Go.Proofs.Ytnfaiblhjgmjgaa
open Go.RowKit Go.Proofs.YtnfaiblhjgmjgaaW.PrintWords


/-- What a measure tells: where it isn't below 0, P. -/
def SzPost (left : Int) (P : Prop) (w : World) (e : Ending) (w' : World) : Prop := ∃ r : Int, e = .returned (.int .i64 r) ∧ Below w.heap.size w w' ∧ -1 ≤ r ∧ r ≤ left ∧ (0 ≤ r → P)

set_option maxHeartbeats 400000 in
set_option maxRecDepth 100000 in
theorem szInt64S_any (A : Option Addr) (c n : Nat) (left : Int) (w : World) (hn : n ≤ 9223372036854775807) (h0 : 0 ≤ left) (h1 : left ≤ 1048576) :
    Calls Try.prog 67 #[.slice A n c, .int .i64 left] w (SzPost left ((n : Int) ≤ left) w) := by
  by_cases h : left - (n : Int) < 0
  · go_enter Try.func67, Try.ntmps67
    go_wp2
    go_ret
    exact ⟨-1, rfl, Below.refl _ _, by omega, by omega, by omega⟩
  · go_enter Try.func67, Try.ntmps67
    go_wp2
    go_ret
    exact ⟨left - n, rfl, Below.refl _ _, by omega, by omega, by omega⟩

set_option maxHeartbeats 1000000 in
set_option maxRecDepth 100000 in
theorem szStringS_any (A : Option Addr) (c : Nat) (ks : List ByteArray) (left : Int) (w : World) (hk : Kd.C Kd.string w A ks.length ks) (hs : ∀ s ∈ ks, s.size ≤ 9223372036854775807) (h0 : 0 ≤ left) (h1 : left ≤ 1048576) :
    Calls Try.prog 66 #[.slice A ks.length c, .int .i64 left] w (SzPost left ((ks.length : Int) ≤ left ∧ ∀ s ∈ ks, (s.size : Int) ≤ left) w) := by
  have hn := hk.2.1
  have HK := Aside0.mk hk
  have HS := Aside0.mk hs
  clear hk hs
  by_cases h : left - (ks.length : Int) < 0
  · go_enter Try.func66, Try.ntmps66
    go_wp2
    go_ret
    exact ⟨-1, rfl, Below.refl _ _, by omega, by omega, by omega⟩
  · go_enter Try.func66, Try.ntmps66
    go_wp2
    go_loopw [1, 5] (fun lv iv wr => ∃ (i : Nat) (l : Int), i ≤ ks.length ∧ iv = .int .i64 i ∧ lv = .int .i64 l ∧ 0 ≤ l ∧ l ≤ left - ks.length ∧ Aside0 (Below w.heap.size w wr) ∧ Aside0 (∀ s ∈ ks.take i, (s.size : Int) ≤ left)) (fun _ iv _ => ks.length - (intOf iv).toNat)
    case atStart => exact ⟨0, left - ks.length, Nat.zero_le _, rfl, rfl, by omega, by omega, ⟨Below.refl _ _⟩, ⟨by simp⟩⟩
    case round =>
      obtain ⟨i, l, hil, rfl, rfl, hl0, hl1, hb, hpre⟩ := hrel
      by_cases hlt : i < ks.length
      · obtain ⟨x, hx⟩ : ∃ x, ks[i]? = some x := ⟨_, List.getElem?_eq_getElem hlt⟩
        obtain ⟨ad, c', rfl, _, hK, hcell⟩ := Kd.C_get HK.out ⟨#[]⟩ (i : Int) (by omega) (by omega)
        have hK' : c' = [Value.string x] := by
          have := hK
          rw [Int.toNat_natCast, List.getD_eq_getElem?_getD, hx] at this
          exact this
        subst hK'
        have hc0 := hcell 0 _ rfl
        have hcw : wr.cell? (ad.add i) = some (.string x) := pw_cell_below hb.out (by simpa [Kd.string, Kd.scalar] using hc0)
        have hsx := HS.out x (List.mem_of_getElem? hx)
        have htk := Aside0.mk (show ks.take (i + 1) = ks.take i ++ [x] by rw [List.take_add_one, hx]; rfl)
        clear hc0 hcell hK hx
        by_cases hneg : l - (x.size : Int) < 0
        · go_wp2
          go_ret
          exact ⟨-1, rfl, hb.out, by omega, by omega, by omega⟩
        · go_wp2
          go_roundw
          case rel =>
            refine ⟨i + 1, l - x.size, by omega, by go_num, rfl, by omega, by omega, hb, ⟨?_⟩⟩
            rw [htk.out]
            intro s hs
            rcases List.mem_append.1 hs with q | q
            · exact hpre.out s q
            · simp at q
              subst q
              omega
          case measure => simp [intOf]; omega
      · have htk : ks.take i = ks := List.take_of_length_le (by omega)
        have HP := hpre.out
        rw [htk] at HP
        have HPA := Aside0.mk HP
        clear HP htk
        go_wp2
        go_ret
        exact ⟨l, rfl, hb.out, by omega, by omega, fun _ => ⟨by omega, HPA.out⟩⟩

set_option maxHeartbeats 1000000 in
set_option maxRecDepth 100000 in
theorem szTNode_any (t : TN) (A1 : Option Addr) (c1 : Nat) (A2 : Option Addr) (c2 : Nat) (left : Int) (w : World) (k1 : Kd.C Kd.string w A1 t.f1.length t.f1) (k2 : Kd.C (Kd.int .i64) w A2 t.f2.length t.f2) (hs : ∀ s ∈ t.f1, s.size ≤ 9223372036854775807) (h0 : 0 ≤ left) (h1 : left ≤ 1048576) :
    Calls Try.prog 45 #[.agg #[.bool t.f0, .slice A1 t.f1.length c1, .slice A2 t.f2.length c2, .int .i64 t.f3], .int .i64 left] w
      (SzPost left ((t.f1.length : Int) ≤ left ∧ (t.f2.length : Int) ≤ left ∧ ∀ s ∈ t.f1, (s.size : Int) ≤ left) w) := by
  have hn2 := k2.2.1
  have HC := Aside0.mk (szStringS_any A1 c1 t.f1 left (w.alloc (.cells #[.bool t.f0, .slice A1 t.f1.length c1, .slice A2 t.f2.length c2, .int .i64 t.f3] 84)) (Kd.C_below k1 (below_alloc (Below.refl _ _) _)) hs h0 h1)
  clear k1 k2 hs
  go_enter Try.func45, Try.ntmps45
  go_wp2_with fail
  refine HC.out.mono ?_
  rintro e w1 ⟨r, rfl, hb, hr0, hr1, hp⟩
  have HB := Aside0.mk hb
  have HP := Aside0.mk hp
  have hblk := blk_below (blk_new w (.cells #[.bool t.f0, .slice A1 t.f1.length c1, .slice A2 t.f2.length c2, .int .i64 t.f3] 84)) hb
  have m2 : w1.cell? ⟨w.heap.size, 2, none⟩ = some (.slice A2 t.f2.length c2) := (blkcell hblk 2).trans rfl
  clear hblk hb hp
  by_cases hneg : r < 0
  · go_wp2
    go_ret
    exact ⟨-1, rfl, below_step (below_alloc (Below.refl _ _) _) HB.out, by omega, by omega, by omega⟩
  · have HC2 := Aside0.mk (szInt64S_any A2 c2 t.f2.length r w1 hn2 (by omega) (by omega))
    go_wp2_with fail
    refine HC2.out.mono ?_
    rintro e w2 ⟨r2, rfl, hb2, hr2, hr3, hp2⟩
    have HB2 := Aside0.mk hb2
    have HP2 := Aside0.mk hp2
    clear hb2 hp2 m2
    by_cases hneg2 : r2 < 0
    · go_wp2
      go_ret
      exact ⟨-1, rfl, below_step (below_step (below_alloc (Below.refl _ _) _) HB.out) HB2.out, by omega, by omega, by omega⟩
    · go_wp2
      go_ret
      exact ⟨r2, rfl, below_step (below_step (below_alloc (Below.refl _ _) _) HB.out) HB2.out, by omega, by omega, fun h => ⟨(HP.out (by omega)).1, by have := HP2.out (by omega); omega, (HP.out (by omega)).2⟩⟩

def nodeLe (left : Int) (t : TN) : Prop := (t.f1.length : Int) ≤ left ∧ (t.f2.length : Int) ≤ left ∧ ∀ s ∈ t.f1, (s.size : Int) ≤ left
theorem nodeLe.mono {a b : Int} {t : TN} (h : nodeLe a t) (hab : a ≤ b) : nodeLe b t := ⟨by have := h.1; omega, by have := h.2.1; omega, fun s hs => by have := h.2.2 s hs; omega⟩

set_option maxHeartbeats 1000000 in
set_option maxRecDepth 100000 in
theorem szTNodeS_any (A : Option Addr) (c : Nat) (ns : List TN) (left : Int) (w : World) (hk : Kd.C kTN w A ns.length ns) (hs : ∀ x ∈ ns, ∀ s ∈ x.f1, s.size ≤ 9223372036854775807) (h0 : 0 ≤ left) (h1 : left ≤ 1048576) :
    Calls Try.prog 27 #[.slice A ns.length c, .int .i64 left] w (SzPost left ((ns.length : Int) ≤ left ∧ ∀ t ∈ ns, nodeLe left t) w) := by
  have hn := hk.2.1
  have HK := Aside0.mk hk
  have HS := Aside0.mk hs
  clear hk hs
  by_cases h : left - (ns.length : Int) < 0
  · go_enter Try.func27, Try.ntmps27
    go_wp2
    go_ret
    exact ⟨-1, rfl, Below.refl _ _, by omega, by omega, by omega⟩
  · go_enter Try.func27, Try.ntmps27
    go_wp2
    go_loopw [1, 5] (fun lv iv wr => ∃ (i : Nat) (l : Int), i ≤ ns.length ∧ iv = .int .i64 i ∧ lv = .int .i64 l ∧ 0 ≤ l ∧ l ≤ left - ns.length ∧ Aside0 (Below w.heap.size w wr) ∧ Aside0 (∀ t ∈ ns.take i, nodeLe left t)) (fun _ iv _ => ns.length - (intOf iv).toNat)
    case atStart => exact ⟨0, left - ns.length, Nat.zero_le _, rfl, rfl, by omega, by omega, ⟨Below.refl _ _⟩, ⟨by simp⟩⟩
    case round =>
      obtain ⟨i, l, hil, rfl, rfl, hl0, hl1, hb, hpre⟩ := hrel
      by_cases hlt : i < ns.length
      · obtain ⟨x, hx⟩ : ∃ x, ns[i]? = some x := ⟨_, List.getElem?_eq_getElem hlt⟩
        obtain ⟨ad, A1, c1, A2, c2, rfl, e0, e1, e2, e3, l1, k1, l2, k2⟩ := PFnTree.at_T89 HK.out (i : Int) (by omega) (by omega)
        have hrd : PFnTree.rd_T89 ns (i : Int) = x := by simp [PFnTree.rd_T89, List.getD_eq_getElem?_getD, hx]
        rw [hrd] at e0 e1 e2 e3 l1 k1 l2 k2
        have b0 := pw_cell_below hb.out e0
        have b1 := pw_cell_below hb.out e1
        have b2 := pw_cell_below hb.out e2
        have b3 := pw_cell_below hb.out e3
        rw [Int.toNat_natCast] at b0 b1 b2 b3
        have HC := Aside0.mk (szTNode_any x A1 c1 A2 c2 l wr (Kd.C_below k1 hb.out) (Kd.C_below k2 hb.out) (HS.out x (List.mem_of_getElem? hx)) hl0 (by omega))
        have htk := Aside0.mk (show ns.take (i + 1) = ns.take i ++ [x] by rw [List.take_add_one, hx]; rfl)
        clear e0 e1 e2 e3 k1 k2 hx hrd
        go_wp2_with fail
        refine HC.out.mono ?_
        rintro e w1 ⟨r, rfl, hb2, hr0, hr1, hp⟩
        have HB2 := Aside0.mk hb2
        have HP := Aside0.mk hp
        clear hb2 hp b0 b1 b2 b3
        by_cases hneg : r < 0
        · go_wp2
          go_ret
          exact ⟨-1, rfl, below_step hb.out HB2.out, by omega, by omega, by omega⟩
        · go_wp2
          go_roundw
          case rel =>
            refine ⟨i + 1, r, by omega, by go_num, rfl, by omega, by omega, ⟨below_step hb.out HB2.out⟩, ⟨?_⟩⟩
            rw [htk.out]
            intro s hs
            rcases List.mem_append.1 hs with q | q
            · exact hpre.out s q
            · simp at q
              subst q
              exact nodeLe.mono (HP.out (by omega)) (by omega)
          case measure => simp [intOf]; omega
      · have htk : ns.take i = ns := List.take_of_length_le (by omega)
        have HP := hpre.out
        rw [htk] at HP
        have HPA := Aside0.mk HP
        clear HP htk
        go_wp2
        go_ret
        exact ⟨l, rfl, hb.out, by omega, by omega, fun _ => ⟨by omega, HPA.out⟩⟩

set_option maxHeartbeats 1000000 in
set_option maxRecDepth 100000 in
theorem szTree_any (A : Option Addr) (c : Nat) (ns : List TN) (left : Int) (w : World) (hk : Kd.C kTN w A ns.length ns) (hs : ∀ x ∈ ns, ∀ s ∈ x.f1, s.size ≤ 9223372036854775807) (h0 : 0 ≤ left) (h1 : left ≤ 1048576) :
    Calls Try.prog 7 #[.agg #[.slice A ns.length c], .int .i64 left] w (SzPost left ((ns.length : Int) ≤ left ∧ ∀ t ∈ ns, nodeLe left t) w) := by
  have HC := Aside0.mk (szTNodeS_any A c ns left (w.alloc (.cells #[.slice A ns.length c] 24)) (Kd.C_below hk (below_alloc (Below.refl _ _) _)) hs h0 h1)
  clear hk hs
  go_enter Try.func7, Try.ntmps7
  go_wp2_with fail
  refine HC.out.mono ?_
  rintro e w1 ⟨r, rfl, hb, hr0, hr1, hp⟩
  have HB := Aside0.mk hb
  have HP := Aside0.mk hp
  clear hb hp
  by_cases hneg : r < 0
  · go_wp2
    go_ret
    exact ⟨-1, rfl, below_step (below_alloc (Below.refl _ _) _) HB.out, by omega, by omega, by omega⟩
  · go_wp2
    go_ret
    exact ⟨r, rfl, below_step (below_alloc (Below.refl _ _) _) HB.out, by omega, by omega, HP.out⟩
end Go.Proofs.Ytnfaiblhjgmjgaa
