/-
  TreeRange of the program: the closure, the walk, the whole.
-/
import Derived.Test.YtnfaiblhjgmjgaaWalkS
import Derived.Test.YtnfaiblhjgmjgaaGood
namespace Go.Proofs.Ytnfaiblhjgmjgaa
open Go.RowKit Go.Proofs.YtnfaiblhjgmjgaaW.PrintWords

def stopB (hi k : ByteArray) : Bool := !hi.toList.isEmpty && !ltB k hi
def rngStep (lo hi : ByteArray) (acc : List ByteArray) (k : ByteArray) : List ByteArray × Bool :=
  if stopB hi k then (acc, false) else if ltB k lo then (acc, true) else (acc ++ [k], true)

structure RngJ (w0 W0 : World) (bh bl bo : Nat) (lo hi : ByteArray) (acc : List ByteArray) (w : World) : Prop where
  sim : Sim w0 w
  size : w0.heap.size ≤ w.heap.size
  bel : Below W0.heap.size W0 w
  hbh : w.heap[bh]? = some (.cells #[.string hi] 9 (0, 0))
  hbl : w.heap[bl]? = some (.cells #[.string lo] 9 (0, 0))
  row : ∃ v, w.heap[bo]? = some (.cells #[v] 35 (0, 0)) ∧ Kd.R Kd.string 9 w W0.heap.size (fun k => w0.heap.size ≤ k) v acc

theorem one_cell {w : World} {b : Nat} {v u : Value} {t : TypeId} {p : Addr} (h : w.heap[b]? = some (.cells #[v] t (0, 0))) (hp : p.block = b) (hc : w.cell? p = some u) : u = v := by
  subst hp
  unfold World.cell? at hc
  rw [h] at hc
  dsimp only at hc
  split at hc
  · cases hc
  · match hq : p.off with
    | 0 => rw [hq] at hc; simpa using hc.symm
    | n + 1 => rw [hq] at hc; simp at hc
theorem rngJ_next {w0 W0 : World} {bh bl bo : Nat} {lo hi : ByteArray} {acc : List ByteArray} {w w1 : World} {v v1 : Value} {xs : List ByteArray} (hJ : RngJ w0 W0 bh bl bo lo hi acc w) (h1 : bh < W0.heap.size) (h2 : bl < W0.heap.size) (h3 : W0.heap.size ≤ bo) (hbo0 : bo < w0.heap.size)
    (hrow : Kd.R Kd.string 9 w W0.heap.size (fun k => w0.heap.size ≤ k) v acc) (hbo : w.heap[bo]? = some (.cells #[v] 35 (0, 0))) (hg : w.grownBy w1 v.ownBlock) (hb : Below W0.heap.size W0 w1) (ho : w1.heap[bo]? = some (.cells #[v] 35 (0, 0)))
    (hI : Kd.R Kd.string 9 w1 W0.heap.size (fun k => w0.heap.size ≤ k) v1 xs) : RngJ w0 W0 bh bl bo lo hi xs (w1.setCell ⟨bo, 0, none⟩ v1) := by
  have hvb : ∀ k, v.ownBlock = some k → w0.heap.size ≤ k := fun k hk => hrow.1 k hk
  obtain ⟨D, d, hv⟩ := Kd.R_slice hrow
  have hsz := hJ.size
  have hbw := hJ.bel.size
  have hW0 : W0.heap.size ≤ w0.heap.size := by omega
  refine ⟨⟨fun b cs t fr hq ht => ?_, fun p x hx hc => ?_⟩, ?_, hb.setCell h3 _, ?_, ?_, v1, ?_, ?_⟩
  · have hlt := blk_lt hq
    have hq2 := hJ.sim.1 b cs t fr hq ht
    have hne : b ≠ bo := by rintro rfl; rw [hbo] at hq2; injection hq2 with hq2; injection hq2 with _ q2 _; exact ht q2.symm
    exact (Below.heap_setCell w1 ⟨bo, 0, none⟩ v1 b hne).trans ((hg.block b (by omega) (fun e => by have := hvb b e.symm; omega)).trans hq2)
  · have hlt := World.block_lt_of_cell? _ _ hc
    have hq2 := hJ.sim.2 p x hx hc
    have hne : p.block ≠ bo := fun e => hx _ _ _ ((one_cell hbo e hq2).trans hv)
    rw [World.cell?_setCell_other _ _ _ _ (fun e => hne (by rw [← e]))]
    exact hg.cell hq2 (fun e => by have := hvb _ e.symm; omega)
  · rw [World.size_setCell]; exact Nat.le_trans hsz hg.size
  · exact blk_far (blk_grown hJ.hbh hg (fun e => by have := hvb _ e.symm; omega)) (p := ⟨bo, 0, none⟩) (show bh ≠ bo by omega) _
  · exact blk_far (blk_grown hJ.hbl hg (fun e => by have := hvb _ e.symm; omega)) (p := ⟨bo, 0, none⟩) (show bl ≠ bo by omega) _
  · exact blk_put ho 0 _ rfl
  · exact Kd.R_set hI ho (by decide) 0 v1

set_option maxHeartbeats 1000000 in
set_option maxRecDepth 100000 in
theorem range1_any (w0 W0 : World) (bh bl bo : Nat) (lo hi : ByteArray) (acc : List ByteArray) (k : ByteArray) (w : World) (h1 : bh < W0.heap.size) (h2 : bl < W0.heap.size) (h3 : W0.heap.size ≤ bo) (h4 : bo < w0.heap.size) (hJ : RngJ w0 W0 bh bl bo lo hi acc w) (hlen : (acc.length + 1) * 16 ≤ 140737488355328) :
    Calls Try.prog 35 (#[.string k] ++ #[.pointer (some ⟨bh, 0, none⟩), .pointer (some ⟨bl, 0, none⟩), .pointer (some ⟨bo, 0, none⟩)]) w fun e w' => e = .returned (.bool (rngStep lo hi acc k).2) ∧ RngJ w0 W0 bh bl bo lo hi (rngStep lo hi acc k).1 w' := by
  have HJ := Aside0.mk hJ
  obtain ⟨hsim, hsize, hbel, hbh, hbl, v, hbo, hrow⟩ := hJ
  have c1 : w.cell? ⟨bh, 0, none⟩ = some (.string hi) := (blkcell hbh 0).trans rfl
  have c2 : w.cell? ⟨bl, 0, none⟩ = some (.string lo) := (blkcell hbl 0).trans rfl
  have c3 : w.cell? ⟨bo, 0, none⟩ = some v := (blkcell hbo 0).trans rfl
  have HSIM := Aside0.mk hsim
  have HBEL := Aside0.mk hbel
  have HBH := Aside0.mk hbh
  have HBL := Aside0.mk hbl
  have HBO := Aside0.mk hbo
  have HROW := Aside0.mk hrow
  have HLEN := Aside0.mk hlen
  have H1 := Aside0.mk h1
  have H2 := Aside0.mk h2
  have H3 := Aside0.mk h3
  have H4 := Aside0.mk h4
  have HSZ := Aside0.mk (show ∀ k, w.heap.size ≤ k → w0.heap.size ≤ k from fun k hk => Nat.le_trans hsize hk)
  clear hsim hsize hbel hbh hbl hbo hrow hlen h1 h2 h3 h4
  cases hst : stopB hi k with
  | true =>
    have e : rngStep lo hi acc k = (acc, false) := by simp [rngStep, hst]
    rw [e]
    unfold stopB at hst
    rw [Bool.and_eq_true] at hst
    obtain ⟨g1, g2⟩ := hst
    have g3 : Op.bytesLess k.toList hi.toList = false := by unfold ltB at g2; simpa using g2
    have g4 : hi.toList.isEmpty = false := by simpa using g1
    clear e g1 g2
    go_enter Try.func35, Try.ntmps35
    go_wp2
    go_ret
    exact ⟨rfl, HJ.out⟩
  | false =>
    cases hlo : ltB k lo with
    | true =>
      have e : rngStep lo hi acc k = (acc, true) := by simp [rngStep, hst, hlo]
      rw [e]
      have g5 : Op.bytesLess k.toList lo.toList = true := hlo
      unfold stopB at hst
      rw [Bool.and_eq_false_iff] at hst
      clear e hlo
      have hst2 : hi.toList.isEmpty = true ∨ (hi.toList.isEmpty = false ∧ Op.bytesLess k.toList hi.toList = true) := by
        cases hq : hi.toList.isEmpty with
        | true => exact .inl rfl
        | false => rw [hq] at hst; exact .inr ⟨rfl, by have := hst.resolve_left (by simp); unfold ltB at this; simpa using this⟩
      clear hst
      rcases hst2 with g4 | ⟨g4, g3⟩
      all_goals
        go_enter Try.func35, Try.ntmps35
        go_wp2
        go_ret
        exact ⟨rfl, HJ.out⟩
    | false =>
      have e : rngStep lo hi acc k = (acc ++ [k], true) := by simp [rngStep, hst, hlo]
      rw [e]
      have g5 : Op.bytesLess k.toList lo.toList = false := hlo
      unfold stopB at hst
      rw [Bool.and_eq_false_iff] at hst
      clear e hlo
      have hst2 : hi.toList.isEmpty = true ∨ (hi.toList.isEmpty = false ∧ Op.bytesLess k.toList hi.toList = true) := by
        cases hq : hi.toList.isEmpty with
        | true => exact .inl rfl
        | false => rw [hq] at hst; exact .inr ⟨rfl, by have := hst.resolve_left (by simp); unfold ltB at this; simpa using this⟩
      clear hst
      have hfz : w.frozen? ⟨bo, 0, none⟩ = false := blk_frozen HBO.out 0
      rcases hst2 with g4 | ⟨g4, g3⟩
      all_goals
        go_enter Try.func35, Try.ntmps35
        go_wp2_with ((with_reducible refine gate_builtin (b := .append) (xs := #[.tmp 16, .tmp 18]) rfl ?_); at_builtin; go_must (refine Kd.R_append Kd.string (w0 := W0) W0.heap.size rfl (.tmp 16) (.tmp 18) 35 9 (.string ⟨#[]⟩) 16 rfl Try.underlying35 PFnTree.info9 rfl (by decide) (by decide) v acc k [.string k] (fun k => w0.heap.size ≤ k) (fun _ => False) rfl rfl rfl (fun _ h => h.elim) HSZ.out HROW.out HBEL.out HBEL.out.size HLEN.out ?_; intro v1 w1 hI hb hg hat; obtain ⟨D1, d1, eV⟩ := Kd.R_slice hI; rw [List.length_append, List.length_singleton] at eV; subst eV; have HI := Aside0.mk hI; have HB := Aside0.mk hb; have HG := Aside0.mk hg; have O2 := Aside0.mk (blk_grown HBO.out hg (fun e => Kd.R_ne HROW.out HBO.out (by decide) e)); have hz : w1.frozen? ⟨bo, 0, none⟩ = false := blk_frozen O2.out 0; have q3 : w1.cell? ⟨bo, 0, none⟩ = some v := (blkcell O2.out 0).trans rfl; clear hI hb hg hat c1 c2 c3 hfz))
        go_ret
        refine ⟨rfl, ?_⟩
        exact rngJ_next HJ.out H1.out H2.out H3.out H4.out HROW.out HBO.out HG.out HB.out O2.out HI.out
/-- With room for r keys more. -/
def RngR (w0 W0 : World) (bh bl bo : Nat) (lo hi : ByteArray) (r : Nat) (acc : List ByteArray) (w : World) : Prop := acc.length + r ≤ 20000 ∧ RngJ w0 W0 bh bl bo lo hi acc w
theorem rng_len (lo hi : ByteArray) (acc : List ByteArray) (k : ByteArray) : (rngStep lo hi acc k).1.length ≤ acc.length + 1 := by
  unfold rngStep
  split
  · simp
  · split <;> simp
theorem range1_yield (w0 W0 : World) (bh bl bo : Nat) (lo hi : ByteArray) (h1 : bh < W0.heap.size) (h2 : bl < W0.heap.size) (h3 : W0.heap.size ≤ bo) (h4 : bo < w0.heap.size) :
    YieldS 35 #[.pointer (some ⟨bh, 0, none⟩), .pointer (some ⟨bl, 0, none⟩), .pointer (some ⟨bo, 0, none⟩)] w0 (RngR w0 W0 bh bl bo lo hi) (rngStep lo hi) := by
  refine ⟨fun args w => by kernel_rfl, fun r s w h => h.2.sim, fun r s w h => ⟨by have := h.1; omega, h.2⟩, ?_⟩
  rintro r acc k w ⟨hl, hJ⟩
  refine (range1_any w0 W0 bh bl bo lo hi acc k w h1 h2 h3 h4 hJ (by omega)).mono ?_
  rintro e w' ⟨rfl, hj⟩
  exact ⟨rfl, by have := rng_len lo hi acc k; omega, hj⟩

/-- Which keys a range takes. -/
def inB (lo hi k : ByteArray) : Bool := !ltB k lo && (hi.toList.isEmpty || ltB k hi)
theorem rng_run (lo hi : ByteArray) : ∀ (ks acc : List ByteArray), Srt ks → (runK (rngStep lo hi) acc ks).1 = acc ++ ks.filter (inB lo hi)
  | [], acc, _ => by simp [runK]
  | k :: ks, acc, hs => by
    have hs' := List.pairwise_cons.1 hs
    simp only [runK]
    cases hst : stopB hi k with
    | true =>
      have e : rngStep lo hi acc k = (acc, false) := by simp [rngStep, hst]
      rw [e]
      simp only [Bool.false_eq_true, if_false]
      unfold stopB at hst
      rw [Bool.and_eq_true] at hst
      obtain ⟨g1, g2⟩ := hst
      have g3 : ltB k hi = false := by simpa using g2
      have g4 : hi.toList.isEmpty = false := by simpa using g1
      have : (k :: ks).filter (inB lo hi) = [] := by
        rw [List.filter_eq_nil_iff]
        intro x hx
        have : ltB x hi = false := by
          rcases List.mem_cons.1 hx with rfl | hx
          · exact g3
          · cases hq : ltB x hi with
            | false => rfl
            | true => have := ltB_trans (hs'.1 x hx) hq; rw [g3] at this; cases this
        simp [inB, this, g4]
      rw [this, List.append_nil]
    | false =>
      have hst2 : (hi.toList.isEmpty || ltB k hi) = true := by
        unfold stopB at hst
        cases h1 : hi.toList.isEmpty <;> cases h2 : ltB k hi <;> simp [h1, h2] at hst ⊢
      cases hlo : ltB k lo with
      | true =>
        have e : rngStep lo hi acc k = (acc, true) := by simp [rngStep, hst, hlo]
        rw [e]
        simp only [if_true]
        rw [rng_run lo hi ks acc hs'.2]
        have : inB lo hi k = false := by simp [inB, hlo]
        rw [List.filter_cons_of_neg (by rw [this]; simp)]
      | false =>
        have e : rngStep lo hi acc k = (acc ++ [k], true) := by simp [rngStep, hst, hlo]
        rw [e]
        simp only [if_true]
        rw [rng_run lo hi ks _ hs'.2]
        have : inB lo hi k = true := by simp only [inB, hlo, hst2]; rfl
        rw [List.filter_cons_of_pos this, List.append_assoc, List.singleton_append]
def rangeP (ns : List TN) (lo hi : ByteArray) : List ByteArray := match rootP ns with
  | none => []
  | some t => t.keys.filter (inB lo hi)

/-- Where TreeRange calls root. -/
abbrev rngW (w : World) (A : Option Addr) (n c : Nat) (lo hi : ByteArray) : World := ((w.alloc (.cells #[.slice A n c] 29)).alloc (.cells #[.string lo] 9)).alloc (.cells #[.string hi] 9)
set_option maxHeartbeats 2000000 in
set_option maxRecDepth 100000 in
theorem treeRange_any (A : Option Addr) (c : Nat) (ns : List TN) (lo hi : ByteArray) (w : World) (hns : Kd.C kTN w A ns.length ns) :
    Calls Try.prog 15 #[.agg #[.slice A ns.length c], .string lo, .string hi] w (fun e w' => ∃ v, e = .returned v ∧ Kd.R Kd.string 9 w' w.heap.size (fun _ => True) v (rangeP ns lo hi) ∧ Below w.heap.size w w') := by
  obtain ⟨W0, hW0⟩ : ∃ W0 : World, W0 = rngW w A ns.length c lo hi := ⟨_, rfl⟩
  have hs0 : W0.heap.size = w.heap.size + 3 := by rw [hW0, World.size_alloc, World.size_alloc, World.size_alloc]
  have hb0 : Below w.heap.size w W0 := by rw [hW0]; exact below_alloc (below_alloc (below_alloc (Below.refl _ _) _) _) _
  have X1 : W0.heap[w.heap.size + 1]? = some (.cells #[.string lo] 9 (0, 0)) := by
    rw [hW0]
    have := blk_new (w.alloc (.cells #[.slice A ns.length c] 29)) (.cells #[.string lo] 9)
    rw [World.size_alloc] at this
    exact blk_alloc this _
  have X2 : W0.heap[w.heap.size + 1 + 1]? = some (.cells #[.string hi] 9 (0, 0)) := by
    rw [hW0]
    have := blk_new ((w.alloc (.cells #[.slice A ns.length c] 29)).alloc (.cells #[.string lo] 9)) (.cells #[.string hi] 9)
    rw [World.size_alloc, World.size_alloc] at this
    exact this
  obtain ⟨W4, hW4⟩ : ∃ W4 : World, W4 = W0.alloc (.cells #[.slice none 0 0] 35) := ⟨_, rfl⟩
  have X3 : W4.heap[w.heap.size + 3]? = some (.cells #[.slice none 0 0] 35 (0, 0)) := by
    rw [hW4, ← hs0]
    exact blk_new W0 _
  have hb4 : Below W0.heap.size W0 W4 := by rw [hW4]; exact below_alloc (Below.refl _ _) _
  have HR := Aside0.mk (root_any A c ns W4 (Kd.C_below hns (below_step hb0 hb4)))
  have HX1 := Aside0.mk (blk_below X1 hb4)
  have HX2 := Aside0.mk (blk_below X2 hb4)
  have HX3 := Aside0.mk X3
  have HB0 := Aside0.mk hb0
  have HB4 := Aside0.mk hb4
  have HS0 := Aside0.mk hs0
  have HW : Aside0 ((rngW w A ns.length c lo hi).alloc (.cells #[.slice none 0 0] 35) = W4) := ⟨by rw [hW4, hW0]⟩
  have hs4 : Aside0 (W4.heap.size = w.heap.size + 4) := ⟨by rw [hW4, World.size_alloc, hs0]⟩
  clear hns hW0 hW4 hs0 hb0 hb4 X1 X2 X3
  unfold rangeP
  cases h : rootP ns with
  | none =>
    rw [h] at HR
    have HC : Aside0 (Calls Try.prog 30 #[.agg #[.slice A ns.length c]] W4 (fun e w' => e = .returned .nilIface ∧ Below W4.heap.size W4 w')) := HR
    clear HR h
    go_enter Try.func15, Try.ntmps15
    go_wp2_with fail
    rw [HW.out]
    refine HC.out.mono ?_
    rintro e w5 ⟨rfl, hj⟩
    have HJ := Aside0.mk hj
    have hz : w5.cell? ⟨w.heap.size + 3, 0, none⟩ = some (.slice none 0 0) := (blkcell (blk_below HX3.out hj) 0).trans rfl
    clear hj
    go_wp2_with (go_at_call 34; refine (walk_nil _ _).mono ?_; rintro e w6 ⟨rfl, rfl⟩)
    go_ret
    exact ⟨_, rfl, Kd.R_nil _ _ _ _ _, below_step (below_step HB0.out HB4.out) HJ.out⟩
  | some t =>
    rw [h] at HR
    have hg := Aside0.mk (root_good ns t h).1
    have HC : Aside0 (Calls Try.prog 30 #[.agg #[.slice A ns.length c]] W4 (fun e w' => ∃ v, e = .returned v ∧ Below W4.heap.size W4 w' ∧ NodeAt w' t v)) := HR
    clear HR h
    go_enter Try.func15, Try.ntmps15
    go_wp2_with fail
    rw [HW.out]
    refine HC.out.mono ?_
    rintro e w5 ⟨v, rfl, hj, hn⟩
    have hs5 : w.heap.size + 4 ≤ w5.heap.size := by rw [← hs4.out]; exact hj.size
    have hJ0 : RngR w5 W0 (w.heap.size + 1 + 1) (w.heap.size + 1) (w.heap.size + 3) lo hi (t.keys.length + 0) [] w5 := by
      refine ⟨?_, Sim.below (Below.refl _ _), Nat.le_refl _, below_step HB4.out hj, blk_below HX2.out hj, blk_below HX1.out hj, .slice none 0 0, blk_below HX3.out hj, Kd.R_nil _ _ _ _ _⟩
      have := hg.out.few
      simp only [List.length_nil]
      omega
    have HW5 := Aside0.mk (walkS_any _ _ w5 _ (rngStep lo hi) (range1_yield w5 W0 (w.heap.size + 1 + 1) (w.heap.size + 1) (w.heap.size + 3) lo hi (by rw [HS0.out]; omega) (by rw [HS0.out]; omega) (by rw [HS0.out]; omega) (by omega)) t v [] w5 0 hn hJ0)
    have HRUN := Aside0.mk (rng_run lo hi t.keys [] hg.out.srt)
    clear hn hJ0 hj hs5
    go_wp2_with fail
    refine HW5.out.mono ?_
    rintro e w6 ⟨rfl, hl, hJ⟩
    rw [HRUN.out, List.nil_append] at hJ
    obtain ⟨vo, hbo, hrow⟩ := hJ.row
    obtain ⟨D, d, rfl⟩ := Kd.R_slice hrow
    have hz : w6.cell? ⟨w.heap.size + 3, 0, none⟩ = some (.slice D (t.keys.filter (inB lo hi)).length d) := (blkcell hbo 0).trans rfl
    have HROW := Aside0.mk hrow
    have HBEL := Aside0.mk (below_step HB0.out hJ.bel)
    clear hl hJ hbo hrow
    go_wp2
    go_ret
    exact ⟨_, rfl, Kd.R_lower (Kd.R_mono HROW.out (fun _ _ => trivial)) HB0.out.size, HBEL.out⟩
end Go.Proofs.Ytnfaiblhjgmjgaa
