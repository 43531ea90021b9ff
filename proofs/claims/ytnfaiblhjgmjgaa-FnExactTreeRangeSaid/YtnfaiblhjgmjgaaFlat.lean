/-
  The reference's flattening of a nested tree.
-/
import Derived.Test.YtnfaiblhjgmjgaaSame
import Derived.Test.YtnfaiblhjgmjgaaTo
import Derived.Deep.DeepCutAuto
import Derived.Deep.RegionHeld3
import Derived.Deep.RegionLaw
namespace Go.Proofs.Ytnfaiblhjgmjgaa
open Go.RowKit Go.Proofs.YtnfaiblhjgmjgaaW.PrintWords Go.Proofs.YtnfaiblhjgmjgaaW.PrintLast Go.Proofs.YtnfaiblhjgmjgaaW.PrintMore

/-- The flattening's contract. -/
def FlatOk (x : LX) : Prop := ∀ (w : World) (at_ : Nat) (A1 : Option Addr) (c1 : Nat) (A2 : Option Addr) (c2 : Nat),
  at_ + sizeX x ≤ 1048576 → Kd.C Kd.string w A1 x.f1.length x.f1 → x.f1.length ≤ c1 → Kd.C kLX w A2 x.f2.length x.f2 → x.f2.length ≤ c2 →
  Calls Try.prog 49 #[.agg #[.bool x.f0, .slice A1 x.f1.length c1, .slice A2 x.f2.length c2], .int .i64 at_] w (fun e w' => ∃ v, e = .returned v ∧ Kd.R kTN 89 w' w.heap.size (fun _ => True) v (flatX x at_) ∧ Below w.heap.size w w')

theorem infoI : (Try.prog.info? 2).map (fun i => (i.zero, i.size, i.bytes)) = some (some (.int .i64 0), 1, 8) := by kernel_rfl

theorem str_first {w : World} {base e : Nat} {ok : Nat → Prop} {D : Option Addr} {n c : Nat} {xs : List ByteArray} (h : Kd.R Kd.string e w base ok (.slice D n c) xs) (hn : 0 < xs.length) : ∃ g, D = some ⟨g, 0, none⟩ ∧ w.cell? ⟨g, 0, none⟩ = some (.string (xs.headD ⟨#[]⟩)) := by
  obtain ⟨g, cap, hv, _⟩ := Kd.R_form h hn
  injection hv with h1 h2 h3
  subst h1 h2
  obtain ⟨cc, _, hM, hcc⟩ := Kd.R_getA h ⟨#[]⟩ 0 (by omega) (by omega)
  have hc : cc = [.string (xs.getD 0 ⟨#[]⟩)] := hM
  refine ⟨g, rfl, ?_⟩
  have h3 := hcc 0 (.string (xs.getD 0 ⟨#[]⟩)) (by rw [hc]; rfl)
  have h4 : xs.getD 0 ⟨#[]⟩ = xs.headD ⟨#[]⟩ := by cases xs <;> rfl
  rw [h4] at h3
  rw [← h3]
  rw [add_plain]
  rfl

/-- A row that is not the turned row, behind an append. -/
theorem R_turn {α : Type} {d : Kd α} {e base : Nat} {P : Nat → Prop} {w w1 : World} {v u u' : Value} {xs : List α} (h : d.R e w base (fun k => P k ∧ some k ≠ u.ownBlock) v xs) (hg : w.grownBy w1 u.ownBlock) (hat : u'.ownBlock = u.ownBlock ∨ ∃ b, u'.ownBlock = some b ∧ w.heap.size ≤ b) : d.R e w1 base (fun k => P k ∧ some k ≠ u'.ownBlock) v xs := by
  have h1 := Kd.R_mono (Kd.R_bound h) (ok' := fun k => P k ∧ some k ≠ u.ownBlock ∧ some k ≠ u'.ownBlock) (fun k hk => ⟨hk.1.1, hk.1.2, by
    rcases hat with e | ⟨b, e, hb⟩
    · rw [e]; exact hk.1.2
    · rw [e]
      intro q
      injection q with q
      have := hk.2.2.1
      omega⟩)
  exact Kd.R_mono (Kd.R_grown h1 hg (fun k hk => hk.2.1)) (fun k hk => ⟨hk.1, hk.2.2⟩)
theorem flatXL_append : ∀ (a b : List LX) (p : Int), flatXL (a ++ b) p = flatXL a p ++ flatXL b (p + sizeXL a)
  | [], b, p => by simp [flatXL, sizeXL]
  | x :: a, b, p => by simp [flatXL, sizeXL, flatXL_append a b, Int.add_assoc]
theorem posX_append : ∀ (a b : List LX) (p : Int), posX (a ++ b) p = posX a p ++ posX b (p + sizeXL a)
  | [], b, p => by simp [posX, sizeXL]
  | x :: a, b, p => by simp [posX, sizeXL, posX_append a b, Int.add_assoc]
theorem flatXL_len : ∀ xs : List LX, (∀ y ∈ xs, ∀ p, (flatX y p).length = sizeX y) → ∀ p, (flatXL xs p).length = sizeXL xs
  | [], _, p => by simp [flatXL, sizeXL]
  | x :: xs, h, p => by simp [flatXL, sizeXL, h x, flatXL_len xs (fun y hy => h y (List.mem_cons_of_mem _ hy))]
theorem flatX_len : ∀ (x : LX) (p : Int), (flatX x p).length = sizeX x := by
  refine LX.ind (fun x ih => ?_)
  intro p
  cases x with
  | mk f0 f1 f2 =>
    cases f0 with
    | true => simp [flatX, sizeX]
    | false => simp [flatX, sizeX, flatXL_len f2 (fun y hy p => ih y hy p)]
theorem len_sizeXL : ∀ l : List LX, l.length ≤ sizeXL l := by
  intro l
  induction l with
  | nil => simp
  | cons a l ih =>
    have : 1 ≤ sizeX a := by rw [sizeX_mk]; split <;> omega
    simp only [List.length_cons, sizeXL]; omega
theorem flatXL_length (xs : List LX) (p : Int) : (flatXL xs p).length = sizeXL xs := flatXL_len xs (fun y _ => flatX_len y) p
theorem sepsX_snoc (a : List LX) (y : LX) (h : a ≠ []) : sepsX (a ++ [y]) = sepsX a ++ [(keysX y).headD ⟨#[]⟩] := by
  cases a with
  | nil => exact absurd rfl h
  | cons x a => simp [sepsX]

set_option maxHeartbeats 2000000 in
set_option maxRecDepth 100000 in
theorem flat_step (x : LX) (hkids : x.f0 = false → ∀ y ∈ x.f2, FlatOk y) (hne : x.f0 = false → ∀ y ∈ x.f2, keysX y ≠ []) (hlen : (keysX x).length ≤ 1048576) (hsz : sizeX x ≤ 1048576) : FlatOk x := by
  intro w at_ A1 c1 A2 c2 hat h1 hc1 h2 hc2
  obtain ⟨l, hl⟩ : ∃ l, x.f0 = l := ⟨_, rfl⟩
  obtain ⟨n, hn⟩ : ∃ n, (keysX x).length = n := ⟨_, rfl⟩
  obtain ⟨k, hk⟩ : ∃ k, PFnTree.spec_l3Keys.f k l x.f1 x.f2 = some (keysX x) := by
    have h := (l3Keys_ev x (by omega) (by omega)).rounds
    rw [hl] at h
    exact h
  rw [hl]
  obtain ⟨W1, hW1⟩ : ∃ W1 : World, W1 = w.alloc (.cells #[.bool l, .slice A1 x.f1.length c1, .slice A2 x.f2.length c2] 53) := ⟨_, rfl⟩
  have hb1 : Below w.heap.size w W1 := by rw [hW1]; exact below_alloc (Below.refl _ _) _
  have hs1 : W1.heap.size = w.heap.size + 1 := by rw [hW1, World.size_alloc]
  have X1 : W1.heap[w.heap.size]? = some (.cells #[.bool l, .slice A1 x.f1.length c1, .slice A2 x.f2.length c2] 53 (0, 0)) := by rw [hW1]; exact blk_new _ _
  have HC := Aside0.mk (fun W (hb : Below W1.heap.size W1 W) => PFnTree.spec_l3Keys.calls k l A1 c1 x.f1 A2 c2 x.f2 (keysX x) W (Kd.C_below (Kd.C_below h1 hb1) hb) hc1 (Kd.C_below (Kd.C_below h2 hb1) hb) hc2 hk)
  have H1 := Aside0.mk h1
  have H2 := Aside0.mk h2
  have HW1 := Aside0.mk hW1
  have HB1 := Aside0.mk hb1
  have HX1 := Aside0.mk X1
  have HHL := Aside0.mk hl
  have HS1 := Aside0.mk hs1
  have HLE := Aside0.mk (Nat.le_of_eq hs1)
  have HN := Aside0.mk hn
  have HKIDS := Aside0.mk hkids
  have HNE := Aside0.mk hne
  have HLEN := Aside0.mk hlen
  have HSZ := Aside0.mk hsz
  have HAT := Aside0.mk hat
  have HC1 := Aside0.mk hc1
  have HC2 := Aside0.mk hc2
  clear hk h1 h2 hW1 hb1 X1 hl hn hkids hne hlen hsz hat hc1 hc2
  go_enter Try.func49, Try.ntmps49
  go_upto_region 1 with fail
  rw [← HW1.out]
  have x0 : W1.cell? ⟨w.heap.size, 0, none⟩ = some (.bool l) := (blkcell HX1.out 0).trans rfl
  have x1 : W1.cell? ⟨w.heap.size, 1, none⟩ = some (.slice A1 x.f1.length c1) := (blkcell HX1.out 1).trans rfl
  have x2 : W1.cell? ⟨w.heap.size, 2, none⟩ = some (.slice A2 x.f2.length c2) := (blkcell HX1.out 2).trans rfl
  go_cut [5] (fun v5 wc => ∃ g, v5 = .pointer (some ⟨g, 0, none⟩) ∧ Aside0 (W1.heap.size ≤ g) ∧ Aside0 (wc.heap[g]? = some (.cells #[.bool l, .slice none 0 0, .slice none 0 0, .int .i64 n] 89 (0, 0))) ∧ Aside0 (Below W1.heap.size W1 wc))
  case first =>
    have KP : ∀ W', Below W1.heap.size W1 W' → (W'.cell? ⟨w.heap.size, 0, none⟩ = some (.bool l) ∧ W'.cell? ⟨w.heap.size, 1, none⟩ = some (.slice A1 x.f1.length c1) ∧ W'.cell? ⟨w.heap.size, 2, none⟩ = some (.slice A2 x.f2.length c2)) ∧ Below W1.heap.size W1 W' := fun W' hb => ⟨⟨(blkcell (blk_below HX1.out hb) 0).trans rfl, (blkcell (blk_below HX1.out hb) 1).trans rfl, (blkcell (blk_below HX1.out hb) 2).trans rfl⟩, hb⟩
    have HKP := Aside0.mk KP
    have HB0 := Aside0.mk (Below.refl W1.heap.size W1)
    clear KP
    go_region_held3 (fun W' => (W'.cell? ⟨w.heap.size, 0, none⟩ = some (.bool l) ∧ W'.cell? ⟨w.heap.size, 1, none⟩ = some (.slice A1 x.f1.length c1) ∧ W'.cell? ⟨w.heap.size, 2, none⟩ = some (.slice A2 x.f2.length c2)) ∧ Below W1.heap.size W1 W')
      ((refine HKP.out _ ?_; first | exact HB2.out | exact below_drew HB0.out | exact below_alloc HB2.out _ | exact below_set (below_alloc HB2.out _) HB2.out.size | exact below_drew (below_alloc HB0.out _) | exact below_set (below_set (below_set (below_set HB2.out HLE.out) HLE.out) HLE.out) HLE.out))
      (first | (go_at_call 32; refine (HC.out _ (below_drew HB0.out)).mono ?_; rintro e w2 ⟨v, rfl, hr, hb2⟩; obtain ⟨D, d, rfl⟩ := Kd.R_slice hr; rw [HN.out]; have HB2 := Aside0.mk (below_step (below_drew HB0.out) hb2); clear hr hb2) | (go_at_call 32; refine (HC.out _ (below_drew (below_alloc HB0.out _))).mono ?_; rintro e w2 ⟨v, rfl, hr, hb2⟩; obtain ⟨D, d, rfl⟩ := Kd.R_slice hr; rw [HN.out]; have HB2 := Aside0.mk (below_step (below_drew (below_alloc HB0.out _)) hb2); have O2 := Aside0.mk (blk_below (blk_drew (blk_new W1 (.cells #[.bool false, .slice none 0 0, .slice none 0 0, .int .i64 0] 89))) hb2); rw [HS1.out] at O2; have o0 : w2.cell? ⟨w.heap.size + 1, 0, none⟩ = some (.bool false) := (blkcell O2.out 0).trans rfl; have o1 : w2.cell? ⟨w.heap.size + 1, 1, none⟩ = some (.slice none 0 0) := (blkcell O2.out 1).trans rfl; have o2 : w2.cell? ⟨w.heap.size + 1, 2, none⟩ = some (.slice none 0 0) := (blkcell O2.out 2).trans rfl; have o3 : w2.cell? ⟨w.heap.size + 1, 3, none⟩ = some (.int .i64 0) := (blkcell O2.out 3).trans rfl; have z0 : w2.frozen? ⟨w.heap.size + 1, 0, none⟩ = false := blk_frozen O2.out 0; have z1 : w2.frozen? ⟨w.heap.size + 1, 1, none⟩ = false := blk_frozen O2.out 1; have z2 : w2.frozen? ⟨w.heap.size + 1, 2, none⟩ = false := blk_frozen O2.out 2; have z3 : w2.frozen? ⟨w.heap.size + 1, 3, none⟩ = false := blk_frozen O2.out 3; clear hr hb2))
    · go_wp2_with fail
      go_meet
      case rel => exact ⟨_, rfl, ⟨HB2.out.size⟩, ⟨blk_new _ _⟩, ⟨below_alloc HB2.out _⟩⟩
    · go_wp2_with fail
      go_meet
      case rel => exact ⟨_, rfl, HLE, ⟨blk_put (blk_put (blk_put (blk_put O2.out 0 _ rfl) 1 _ rfl) 2 _ rfl) 3 _ rfl⟩, ⟨below_set (below_set (below_set (below_set HB2.out HLE.out) HLE.out) HLE.out) HLE.out⟩⟩
  case rest =>
    obtain ⟨g, rfl, HG, HO, HBC⟩ := hcut
    obtain ⟨wq, rfl⟩ : ∃ wq : World, wq = wc := ⟨_, rfl⟩
    clear x0 x1 x2 hs1
    have HX2 := Aside0.mk (blk_below HX1.out HBC.out)
    have HBW := Aside0.mk (below_step HB1.out HBC.out)
    have HGL := Aside0.mk (blk_lt HO.out)
    have x0 : wq.cell? ⟨w.heap.size, 0, none⟩ = some (.bool l) := (blkcell HX2.out 0).trans rfl
    cases l with
    | true =>
      have hks : keysX x = x.f1 := by rw [keysX_mk, HHL.out]; rfl
      have hfl : flatX x (at_ : Int) = [⟨true, x.f1, [], (n : Int)⟩] := by
        have e := HHL.out
        have e2 := HN.out
        rw [hks] at e2
        cases x with
        | mk f0 f1 f2 =>
          simp only at e e2
          subst e
          simp only [flatX, if_true, e2]
      have hl1 : x.f1.length ≤ 1048576 := by have := HLEN.out; rw [hks] at this; exact this
      have HL1 := Aside0.mk hl1
      have HFL := Aside0.mk hfl
      have HR1 := Aside0.mk (Kd.C_below H1.out HB1.out)
      have x1 : wq.cell? ⟨w.heap.size, 1, none⟩ = some (.slice A1 x.f1.length c1) := (blkcell HX2.out 1).trans rfl
      clear hks hfl hl1
      go_wp2_with (first | ((with_reducible refine gate_dst (N := 16) rfl ?_); go_must (refine Kd.R_lit Kd.string (w0 := W1) W1.heap.size 9 ?hg (N := 16) ?hd (xs := ([] : List ByteArray)) (inner := []) (ok := fun k => wq.heap.size ≤ k) (okp := fun _ => False) ?hr (Reps.none _ _) (fun _ hk => hk.elim) (Nat.le_refl _) HBC.out HBC.out.size (by simp) ?_; (case hd => rfl); (case hg => rfl); (case hr => first | (go_simp; done) | (go_simp; rfl)); intro v1 w3 ho hb hg _; have HO1 := Aside0.mk ho; have HB3 := Aside0.mk hb; have HS3 := Aside0.mk hg.size; have O3 := Aside0.mk (blk_grown HO.out hg (by simp)); have x3 : w3.cell? ⟨w.heap.size, 1, none⟩ = some (.slice A1 x.f1.length c1) := (blkcell (blk_grown HX2.out hg (by simp)) 1).trans rfl; clear ho hb hg)) | ((with_reducible refine gate_builtin (b := .append) (xs := #[.tmp 16, .tmp 18]) rfl ?_); at_builtin; go_must (refine Kd.R_append_rows Kd.string (w0 := W1) W1.heap.size rfl (.tmp 16) (.tmp 18) 35 9 (.string ⟨#[]⟩) 16 rfl Try.underlying35 PFnTree.info9 rfl (by decide) (by omega) v1 [] x.f1 _ _ _ (fun k => wq.heap.size ≤ k) (fun _ => False) rfl rfl HO1.out (Kd.C_below HR1.out HB3.out) (fun _ _ h => h) (fun _ h => h.elim) (fun k hk => Nat.le_trans HS3.out hk) HB3.out HB3.out.size ?aL ?_; (case aL => have := HL1.out; simp only [List.length_nil]; omega); intro v2 w4 ho hb hg _; have HO2 := Aside0.mk ho; obtain ⟨D, d, rfl⟩ := Kd.R_slice ho; have HB4 := Aside0.mk hb; have O4 := Aside0.mk (blk_grown O3.out hg (fun e => by have := HO1.out.1 g e.symm; have := HGL.out; omega)); clear ho hb hg; have o0 : w4.cell? ⟨g, 0, none⟩ = some (.bool true) := (blkcell O4.out 0).trans rfl; have o1 : w4.cell? ⟨g, 1, none⟩ = some (.slice none 0 0) := (blkcell O4.out 1).trans rfl; have o2 : w4.cell? ⟨g, 2, none⟩ = some (.slice none 0 0) := (blkcell O4.out 2).trans rfl; have o3 : w4.cell? ⟨g, 3, none⟩ = some (.int .i64 n) := (blkcell O4.out 3).trans rfl; have z1 : w4.frozen? ⟨g, 1, none⟩ = false := blk_frozen O4.out 1)) | ((with_reducible refine gate_dst (N := 22) rfl ?_); go_must (refine Kd.R_lit kTN (w0 := W1) W1.heap.size 89 ?hg (N := 22) ?hd (xs := [(⟨true, x.f1, [], (n : Int)⟩ : TN)]) (inner := [.bool true, .slice D x.f1.length d, .slice none 0 0, .int .i64 n]) (ok := fun _ => True) (okp := fun k => wq.heap.size ≤ k) ?hr ?hrep (fun _ _ => trivial) trivial ?hbl ?hsz (by simp) ?_; (case hd => rfl); (case hg => rfl); (case hr => first | (go_simp; done) | (go_simp; rfl)); (case hbl => exact below_set HB4.out HG.out); (case hsz => rw [World.size_setCell]; exact HB4.out.size); (case hrep => refine Reps.c4 (PFnTree.k89_mkM _ _ _ ⟨true, x.f1, [], (n : Int)⟩ (Kd.R_far HO2.out (fun k hk => by have := HGL.out; simp only; omega) _) (Kd.R_nil _ _ _ _ _)) (Reps.none _ _)); intro v5 w5 ho hb _ _; have HO5 := Aside0.mk ho; have HB5 := Aside0.mk hb; clear ho hb)))
      go_ret
      refine ⟨_, rfl, ?_, below_step HB1.out HB5.out⟩
      rw [HFL.out]
      exact Kd.R_lower HO5.out HB1.out.size
    | false =>
      have x2 : wq.cell? ⟨w.heap.size, 2, none⟩ = some (.slice A2 x.f2.length c2) := (blkcell HX2.out 2).trans rfl
      go_wp2_with ((with_reducible refine gate_dst (N := 23) rfl ?_); go_must (refine Kd.R_lit kTN (w0 := W1) W1.heap.size 89 ?hg (N := 23) ?hd (xs := ([] : List TN)) (inner := []) (ok := fun k => (wq.heap.size ≤ k ∧ some k ≠ (Value.slice none 0 0).ownBlock) ∧ some k ≠ (Value.slice none 0 0).ownBlock) (okp := fun _ => False) ?hr (Reps.none _ _) (fun _ hk => hk.elim) ⟨⟨Nat.le_refl _, by simp [Value.ownBlock]⟩, by simp [Value.ownBlock]⟩ HBC.out HBC.out.size (by simp) ?_; (case hd => rfl); (case hg => rfl); (case hr => first | (go_simp; done) | (go_simp; rfl)); intro v6 w3 ho hb hg _; have HR0 := Aside0.mk ho; have HB3 := Aside0.mk hb; have O3 := Aside0.mk (blk_grown HO.out hg (by simp)); have X3 := Aside0.mk (blk_grown HX2.out hg (by simp)); have HS3 := Aside0.mk hg.size; clear ho hb hg))
      go_loopw [6, 7] (fun v6 v7 wr => ∃ (i : Nat) (vK vI : Value), i ≤ x.f2.length ∧ v7 = .int .i64 i ∧ Aside0 (Below W1.heap.size W1 wr) ∧ Aside0 (wq.heap.size ≤ wr.heap.size) ∧ Aside0 (wr.heap[g]? = some (.cells #[.bool false, vK, vI, .int .i64 n] 89 (0, 0)))
        ∧ Aside0 (Kd.R Kd.string 9 wr W1.heap.size (fun k => wq.heap.size ≤ k ∧ some k ≠ vI.ownBlock) vK (sepsX (x.f2.take i))) ∧ Aside0 (Kd.R (Kd.int .i64) 2 wr W1.heap.size (fun k => wq.heap.size ≤ k) vI (posX (x.f2.take i) ((at_ : Int) + 1)))
        ∧ Aside0 (Kd.R kTN 89 wr W1.heap.size (fun k => (wq.heap.size ≤ k ∧ some k ≠ vK.ownBlock) ∧ some k ≠ vI.ownBlock) v6 (flatXL (x.f2.take i) ((at_ : Int) + 1)))) (fun _ iv _ => x.f2.length - (intOf iv).toNat)
      case atStart => exact ⟨0, .slice none 0 0, .slice none 0 0, Nat.zero_le _, rfl, HB3, HS3, O3, ⟨Kd.R_nil _ _ _ _ _⟩, ⟨Kd.R_nil _ _ _ _ _⟩, HR0⟩
      case round =>
        obtain ⟨i, vK, vI, hil, rfl, HB, HSR, HO5, HK, HI, HR⟩ := hrel
        clear x0 x2
        have x2 : wr.cell? ⟨w.heap.size, 2, none⟩ = some (.slice A2 x.f2.length c2) := (blkcell (blk_below HX1.out HB.out) 2).trans rfl
        have o0 : wr.cell? ⟨g, 0, none⟩ = some (.bool false) := (blkcell HO5.out 0).trans rfl
        have o1 : wr.cell? ⟨g, 1, none⟩ = some vK := (blkcell HO5.out 1).trans rfl
        have o2 : wr.cell? ⟨g, 2, none⟩ = some vI := (blkcell HO5.out 2).trans rfl
        have o3 : wr.cell? ⟨g, 3, none⟩ = some (.int .i64 n) := (blkcell HO5.out 3).trans rfl
        obtain ⟨DR, cR, eR⟩ := Kd.R_slice HR.out
        rw [flatXL_length] at eR
        subst eR
        by_cases hlt : i < x.f2.length
        · obtain ⟨y, hy⟩ : ∃ y, x.f2[i]? = some y := ⟨_, List.getElem?_eq_getElem hlt⟩
          have htk : x.f2.take (i + 1) = x.f2.take i ++ [y] := by rw [List.take_add_one, hy]; rfl
          obtain ⟨r, hr⟩ : ∃ r, sizeXL (x.f2.take i) = r := ⟨_, rfl⟩
          have hbound : at_ + 1 + r + sizeX y ≤ 1048576 := by
            have h1 := HAT.out
            rw [sizeX_mk, HHL.out] at h1
            simp only [Bool.false_eq_true, if_false] at h1
            have h2 : sizeXL (x.f2.take (i + 1)) ≤ sizeXL x.f2 := by
              conv => rhs; rw [← List.take_append_drop (i + 1) x.f2, sizeXL_append]
              omega
            rw [htk, sizeXL_append, hr] at h2
            simp only [sizeXL] at h2
            omega
          have HTK := Aside0.mk htk
          have HY := Aside0.mk hy
          have HRR := Aside0.mk hr
          have HBD := Aside0.mk hbound
          have hb1 : at_ + 1 + r ≤ 1048576 := by omega
          have hxl : x.f2.length ≤ 1048576 := by
            have h1 := HSZ.out
            rw [sizeX_mk, HHL.out] at h1
            simp only [Bool.false_eq_true, if_false] at h1
            have := len_sizeXL x.f2
            omega
          rw [hr]
          clear htk hy hbound hr
          have z1 : wr.frozen? ⟨g, 2, none⟩ = false := blk_frozen HO5.out 2
          have hl9 : ((posX (x.f2.take i) ((at_ : Int) + 1)).length + 1) * 8 ≤ 140737488355328 := by
            have e : ∀ (l : List LX) (q : Int), (posX l q).length = l.length := by
              intro l
              induction l with
              | nil => intro q; rfl
              | cons a l ih => intro q; simp [posX, ih]
            have h2 : ∀ l : List LX, l.length ≤ sizeXL l := by
              intro l
              induction l with
              | nil => simp
              | cons a l ih => have : 1 ≤ sizeX a := by rw [sizeX_mk]; split <;> omega
                               simp only [List.length_cons, sizeXL]; omega
            have h3 := h2 (x.f2.take i)
            have h4 := HRR.out
            rw [e]
            omega
          have HL9 := Aside0.mk hl9
          have HB1' := Aside0.mk hb1
          clear hl9
          go_upto_region 10 with ((with_reducible refine gate_builtin (b := .append) (xs := #[.tmp 32, .tmp 38]) rfl ?_); at_builtin; go_must (refine Kd.R_append (Kd.int .i64) (w0 := W1) W1.heap.size rfl (.tmp 32) (.tmp 38) 82 2 (.int .i64 0) 8 rfl Try.underlying82 infoI rfl (by decide) (by decide) vI _ ((at_ : Int) + 1 + (r : Int)) [.int .i64 ((at_ : Int) + 1 + (r : Int))] (fun k => wq.heap.size ≤ k) (fun _ => False) rfl rfl rfl (fun _ h => h.elim) (fun k hk => Nat.le_trans HSR.out hk) HI.out HB.out HB.out.size HL9.out ?_; intro vI2 w1 hI hb hg hat; have HI2 := Aside0.mk hI; have HB2 := Aside0.mk hb; have HS2 := Aside0.mk (Nat.le_trans HSR.out hg.size); have O2 := Aside0.mk (blk_grown HO5.out hg (fun e => by have := HI.out.1 g e.symm; have := HGL.out; omega)); have HK2 := Aside0.mk (R_turn HK.out hg hat); have HR2 := Aside0.mk (R_turn HR.out hg hat); obtain ⟨DI, cI, eI⟩ := Kd.R_slice hI; rw [List.length_append, List.length_singleton] at eI; subst eI; clear hI hb hg hat; have q2 : w1.cell? ⟨g, 2, none⟩ = some vI := (blkcell O2.out 2).trans rfl; have qz : w1.frozen? ⟨g, 2, none⟩ = false := blk_frozen O2.out 2))
          obtain ⟨vJ, hvJ⟩ : ∃ vJ : Value, vJ = .slice DI ((posX (x.f2.take i) ((at_ : Int) + 1)).length + 1) cI := ⟨_, rfl⟩
          rw [← hvJ] at HI2 HK2 HR2 ⊢
          obtain ⟨w2, hw2⟩ : ∃ w2 : World, w2 = w1.setCell ⟨g, 2, none⟩ vJ := ⟨_, rfl⟩
          rw [← hw2]
          have NG : ∀ k, wq.heap.size ≤ k → k ≠ g := fun k hk => by have := HGL.out; omega
          have B2 := Aside0.mk (show Below W1.heap.size W1 w2 by rw [hw2]; exact below_set HB2.out HG.out)
          have S2 := Aside0.mk (show wq.heap.size ≤ w2.heap.size by rw [hw2, World.size_setCell]; exact HS2.out)
          have N2 := Aside0.mk (show w2.heap[g]? = some (.cells #[.bool false, vK, vJ, .int .i64 n] 89 (0, 0)) by rw [hw2]; exact blk_put O2.out 2 _ rfl)
          have I2 := Aside0.mk (show Kd.R (Kd.int .i64) 2 w2 W1.heap.size (fun k => wq.heap.size ≤ k) vJ (posX (x.f2.take (i + 1)) ((at_ : Int) + 1)) by
            rw [hw2, HTK.out, posX_append, HRR.out]; exact Kd.R_far HI2.out (fun k hk => NG k hk) _)
          have K2 := Aside0.mk (show Kd.R Kd.string 9 w2 W1.heap.size (fun k => wq.heap.size ≤ k ∧ some k ≠ vJ.ownBlock) vK (sepsX (x.f2.take i)) by
            rw [hw2]; exact Kd.R_far HK2.out (fun k hk => NG k hk.1) _)
          have R2 := Aside0.mk (show Kd.R kTN 89 w2 W1.heap.size (fun k => (wq.heap.size ≤ k ∧ some k ≠ vK.ownBlock) ∧ some k ≠ vJ.ownBlock) (.slice DR r cR) (flatXL (x.f2.take i) ((at_ : Int) + 1)) by
            rw [hw2, ← HRR.out]; exact Kd.R_far HR2.out (fun k hk => NG k hk.1.1) _)
          have HNG := Aside0.mk NG
          clear hvJ hw2 q2 qz x2 o0 o1 o2 o3 z1 HI2 HK2 HR2 HB2 HS2 O2 HB HSR HO5 HK HI HR NG
          go_upto_if 42 with fail
          go_cut [7] (fun v7 w3 => v7 = .int .i64 i ∧ ∃ vL, Aside0 (Below W1.heap.size W1 w3) ∧ Aside0 (wq.heap.size ≤ w3.heap.size) ∧ Aside0 (w3.heap[g]? = some (.cells #[.bool false, vL, vJ, .int .i64 n] 89 (0, 0)))
            ∧ Aside0 (Kd.R Kd.string 9 w3 W1.heap.size (fun k => wq.heap.size ≤ k ∧ some k ≠ vJ.ownBlock) vL (sepsX (x.f2.take (i + 1)))) ∧ Aside0 (Kd.R (Kd.int .i64) 2 w3 W1.heap.size (fun k => wq.heap.size ≤ k) vJ (posX (x.f2.take (i + 1)) ((at_ : Int) + 1)))
            ∧ Aside0 (Kd.R kTN 89 w3 W1.heap.size (fun k => (wq.heap.size ≤ k ∧ some k ≠ vL.ownBlock) ∧ some k ≠ vJ.ownBlock) (.slice DR r cR) (flatXL (x.f2.take i) ((at_ : Int) + 1))))
          case first =>
            by_cases h0 : i = 0
            · have hb0 : decide (0 < i) = false := decide_eq_false (by omega)
              have hb0' : decide ((0 : Int) < (i : Int)) = false := decide_eq_false (by omega)
              have K3 : Kd.R Kd.string 9 w2 W1.heap.size (fun k => wq.heap.size ≤ k ∧ some k ≠ vJ.ownBlock) vK (sepsX (x.f2.take (i + 1))) := by
                have e := K2.out
                subst h0
                have e2 := HTK.out
                have e3 : sepsX (x.f2.take 0 ++ [y]) = sepsX (x.f2.take 0) := by simp [sepsX]
                rw [e2, e3]
                exact e
              have HK3 := Aside0.mk K3
              have h0n : ¬ 0 < i := by omega
              clear h0 K3
              go_wp2_with fail
              go_meet
              case rel => exact ⟨rfl, vK, B2, S2, N2, HK3, I2, R2⟩
            · have hb0 : decide (0 < i) = true := decide_eq_true (by omega)
              have hb0' : decide ((0 : Int) < (i : Int)) = true := decide_eq_true (by omega)
              have h00 : 0 < i := by omega
              clear h0
              obtain ⟨ad, Y1, d1, Y2, d2, eA, e0, e1, e2, l1, k1, l2, k2⟩ := PFnTree.at_T53 H2.out (i : Int) (by omega) (by omega)
              rw [rdLX x.f2 i y HY.out] at e0 e1 e2 l1 k1 l2 k2
              rw [Int.toNat_natCast] at e0 e1 e2
              subst eA
              have hyb : (keysX y).length ≤ 1048576 ∧ sizeX y ≤ 1048576 := by
                have hm : y ∈ x.f2 := List.mem_of_getElem? HY.out
                obtain ⟨pa, pb, ee⟩ := List.append_of_mem hm
                have q1 := HLEN.out
                have q2 := HSZ.out
                rw [keysX_mk, HHL.out, ee, keysXL_append] at q1
                rw [sizeX_mk, HHL.out, ee, sizeXL_append] at q2
                simp only [Bool.false_eq_true, if_false, keysXL, sizeXL, List.length_append] at q1 q2
                exact ⟨by omega, by omega⟩
              obtain ⟨ky, hky⟩ := (l3Keys_ev y (by omega) (by omega)).rounds
              obtain ⟨q, hq⟩ : ∃ q, (keysX y).length = q := ⟨_, rfl⟩
              have hq0 : 0 < q := by
                have := HNE.out HHL.out y (List.mem_of_getElem? HY.out)
                rw [← hq]
                exact List.length_pos_iff.2 this
              have HCY := Aside0.mk (fun W (hb : Below W1.heap.size W1 W) => PFnTree.spec_l3Keys.calls ky y.f0 Y1 d1 y.f1 Y2 d2 y.f2 (keysX y) W (Kd.C_below (Kd.C_below k1 HB1.out) hb) l1 (Kd.C_below (Kd.C_below k2 HB1.out) hb) l2 hky)
              have HQ := Aside0.mk hq
              have HQ0 := Aside0.mk hq0
              have n1 : w2.cell? ⟨g, 1, none⟩ = some vK := (blkcell N2.out 1).trans rfl
              have KP : ∀ W', Below W1.heap.size W1 W' → (W'.cell? ⟨w.heap.size, 2, none⟩ = some (.slice (some ad) x.f2.length c2) ∧ W'.cell? (ad.add (i * 3)) = some (.bool y.f0) ∧ W'.cell? ⟨(ad.add (i * 3)).block, (ad.add (i * 3)).off + 1, none⟩ = some (.slice Y1 y.f1.length d1) ∧ W'.cell? ⟨(ad.add (i * 3)).block, (ad.add (i * 3)).off + 2, none⟩ = some (.slice Y2 y.f2.length d2)) ∧ Below W1.heap.size W1 W' := fun W' hb => ⟨⟨(blkcell (blk_below HX1.out hb) 2).trans rfl, pw_cell_below hb (pw_cell_below HB1.out e0), pw_cell_below hb (pw_cell_below HB1.out e1), pw_cell_below hb (pw_cell_below HB1.out e2)⟩, hb⟩
              have HKP := Aside0.mk KP
              have hfr : ∀ k, w2.heap.size ≤ k → wq.heap.size ≤ k ∧ some k ≠ vJ.ownBlock := fun k hk => ⟨Nat.le_trans S2.out hk, fun e => by have := Kd.R_lt I2.out k e.symm; omega⟩
              have HFR := Aside0.mk hfr
              have hlen1 : ((sepsX (x.f2.take i)).length + 1) * 16 ≤ 140737488355328 := by
                have e : ∀ l : List LX, (sepsX l).length ≤ sizeXL l := by
                  intro l
                  cases l with
                  | nil => simp [sepsX]
                  | cons a l =>
                    have h2 : ∀ l : List LX, l.length ≤ sizeXL l := by
                      intro l
                      induction l with
                      | nil => simp
                      | cons a l ih => have : 1 ≤ sizeX a := by rw [sizeX_mk]; split <;> omega
                                       simp only [List.length_cons, sizeXL]; omega
                    have := h2 l
                    simp only [sepsX, List.length_map, sizeXL]
                    omega
                have h1 := e (x.f2.take i)
                rw [HRR.out] at h1
                omega
              have HL1 := Aside0.mk hlen1
              obtain ⟨p0, hp0⟩ : ∃ p0, (keysX y).headD ⟨#[]⟩ = p0 := ⟨_, rfl⟩
              have HP0 := Aside0.mk hp0
              have i0 : (0 : Int) ≤ (i : Int) := Int.natCast_nonneg _
              have i1 : (i : Int) < (x.f2.length : Int) := by omega
              have i2 : (0 : Int) < (q : Int) := by omega
              clear e0 e1 e2 l1 k1 l2 k2 hky hyb hfr hlen1 hp0 KP hq
              go_upto_region 11 with fail
              have b2 : w2.cell? ⟨w.heap.size, 2, none⟩ = some (.slice (some ad) x.f2.length c2) := (HKP.out _ B2.out).1.1
              have b3 : w2.cell? (ad.add (i * 3)) = some (.bool y.f0) := (HKP.out _ B2.out).1.2.1
              have b4 : w2.cell? ⟨(ad.add (i * 3)).block, (ad.add (i * 3)).off + 1, none⟩ = some (.slice Y1 y.f1.length d1) := (HKP.out _ B2.out).1.2.2.1
              have b5 : w2.cell? ⟨(ad.add (i * 3)).block, (ad.add (i * 3)).off + 2, none⟩ = some (.slice Y2 y.f2.length d2) := (HKP.out _ B2.out).1.2.2.2
              have hne1 : x.f2.take i ≠ [] := by
                intro e
                have := congrArg List.length e
                rw [List.length_take, List.length_nil] at this
                omega
              have hsp : sepsX (x.f2.take (i + 1)) = sepsX (x.f2.take i) ++ [p0] := by rw [HTK.out, sepsX_snoc _ _ hne1, HP0.out]
              have HSP := Aside0.mk hsp
              clear hne1 hsp
              go_region_law (first | (refine Kd.R_append_step Kd.string (w0 := W1) W1.heap.size (by rfl) (.tmp 44) (.tmp 53) 35 9 (.string ⟨#[]⟩) 16 rfl Try.underlying35 PFnTree.info9 rfl (by decide) (by decide) vK (sepsX (x.f2.take i)) p0 [.string p0] (fun k => wq.heap.size ≤ k ∧ some k ≠ vJ.ownBlock) (fun _ => False) rfl rfl rfl (fun _ h => h.elim) HFR3.out K3.out B3.out B3.out.size HL1.out ?_; intro v4 w4 hR hb hg hat; have HK4 := Aside0.mk hR; have B4 := Aside0.mk hb; have HG4 := Aside0.mk hg; have HAT4 := Aside0.mk hat; have N4 := Aside0.mk (blk_grown N3.out hg (fun e => by have := (K3.out.1 g e.symm).1; have := HGL.out; omega)); obtain ⟨D4, c4, e4⟩ := Kd.R_slice hR; rw [List.length_append, List.length_singleton] at e4; subst e4; clear hR hb hg hat; have q1 : w4.cell? ⟨g, 1, none⟩ = some vK := (blkcell N4.out 1).trans rfl; have qz : w4.frozen? ⟨g, 1, none⟩ = false := blk_frozen N4.out 1) | (go_simp; go_at_call 32; refine (HCY.out _ (below_drew B2.out)).mono ?_; rintro e w3 ⟨v, rfl, hr, hb2⟩; have HB23 := Aside0.mk (below_step (below_drew (Below.refl w2.heap.size w2)) hb2); obtain ⟨D3, e3, eV⟩ := Kd.R_slice hr; rw [HQ.out] at eV; subst eV; obtain ⟨gk, eD, hcell⟩ := str_first hr (by rw [HQ.out]; exact HQ0.out); subst eD; rw [HP0.out] at hcell; have N3 := Aside0.mk (blk_below N2.out HB23.out); have B3 := Aside0.mk (below_step B2.out HB23.out); have K3 := Aside0.mk (Kd.R_below K2.out HB23.out); have HFR3 := Aside0.mk (fun k (hk : w3.heap.size ≤ k) => HFR.out k (Nat.le_trans HB23.out.size hk)); have n1' : w3.cell? ⟨g, 1, none⟩ = some vK := (blkcell N3.out 1).trans rfl; have gl3 : g < w3.heap.size := blk_lt N3.out; clear hr hb2))
              all_goals
                go_wp2_with fail
                go_meet
                refine ⟨rfl, _, ⟨below_set B4.out HG.out⟩, ⟨?_⟩, ⟨blk_put N4.out 1 _ rfl⟩, ⟨?_⟩, ⟨?_⟩, ⟨?_⟩⟩
                · rw [World.size_setCell]
                  exact Nat.le_trans S2.out (Nat.le_trans HB23.out.size HG4.out.size)
                · rw [HSP.out]
                  exact Kd.R_far HK4.out (fun k hk => HNG.out k hk.1) _
                · exact Kd.R_far (Kd.R_grown2 (Kd.R_below I2.out HB23.out) rfl HG4.out (fun k hk => (K2.out.1 k hk).2)) (fun k hk => HNG.out k hk) _
                · have h := R_turn (P := fun k => wq.heap.size ≤ k ∧ some k ≠ vJ.ownBlock) (Kd.R_mono (Kd.R_below R2.out HB23.out) (fun k hk => ⟨⟨hk.1.1, hk.2⟩, hk.1.2⟩)) HG4.out HAT4.out
                  exact Kd.R_far (Kd.R_mono h (fun k hk => ⟨⟨hk.1.1, hk.2⟩, hk.1.2⟩)) (fun k hk => HNG.out k hk.1.1) _
          case rest =>
            obtain ⟨rfl, vL, B3, S3, N3, K3, I3, R3⟩ := hcut
            obtain ⟨ad, Y1, d1, Y2, d2, eA, e0, e1, e2, l1, k1, l2, k2⟩ := PFnTree.at_T53 H2.out (i : Int) (by omega) (by omega)
            rw [rdLX x.f2 i y HY.out] at e0 e1 e2 l1 k1 l2 k2
            rw [Int.toNat_natCast] at e0 e1 e2
            subst eA
            have HC3 := HKIDS.out HHL.out y (List.mem_of_getElem? HY.out) wc (at_ + 1 + r) Y1 d1 Y2 d2 HBD.out (Kd.C_below (Kd.C_below k1 HB1.out) B3.out) l1 (Kd.C_below (Kd.C_below k2 HB1.out) B3.out) l2
            rw [show (((at_ + 1 + r : Nat)) : Int) = (at_ : Int) + 1 + (r : Int) by omega] at HC3
            have HCF := Aside0.mk HC3
            have b2 : wc.cell? ⟨w.heap.size, 2, none⟩ = some (.slice (some ad) x.f2.length c2) := (blkcell (blk_below HX1.out B3.out) 2).trans rfl
            have b3 : wc.cell? (ad.add (i * 3)) = some (.bool y.f0) := pw_cell_below B3.out (pw_cell_below HB1.out e0)
            have b4 : wc.cell? ⟨(ad.add (i * 3)).block, (ad.add (i * 3)).off + 1, none⟩ = some (.slice Y1 y.f1.length d1) := pw_cell_below B3.out (pw_cell_below HB1.out e1)
            have b5 : wc.cell? ⟨(ad.add (i * 3)).block, (ad.add (i * 3)).off + 2, none⟩ = some (.slice Y2 y.f2.length d2) := pw_cell_below B3.out (pw_cell_below HB1.out e2)
            have i0 : (0 : Int) ≤ (i : Int) := Int.natCast_nonneg _
            have i1 : (i : Int) < (x.f2.length : Int) := by omega
            clear e0 e1 e2 l1 k1 l2 k2 HC3
            go_wp2_with fail
            refine HCF.out.mono ?_
            rintro e w4 ⟨v, rfl, hr, hb4⟩
            have hr2 := Kd.R_lower (Kd.R_mono (Kd.R_bound hr) (ok' := fun k => wc.heap.size ≤ k) (fun k hk => hk.2.1)) B3.out.size
            obtain ⟨D4, c4, e4, l4, C4⟩ := OwnRow.reads hr2.2
            subst e4
            rw [flatX_len] at l4 C4
            have C4' := Aside0.mk C4
            have HB4 := Aside0.mk hb4
            have HSY : Aside0 (sizeX y ≤ 1048576) := ⟨by have := HBD.out; omega⟩
            have hfr : ∀ k, wc.heap.size ≤ k → (((wq.heap.size ≤ k ∧ some k ≠ vL.ownBlock) ∧ some k ≠ vJ.ownBlock) ∧ some k ≠ (Value.slice DR r cR).ownBlock) := fun k hk => ⟨⟨⟨Nat.le_trans S3.out hk, fun e => by have := Kd.R_lt K3.out k e.symm; omega⟩, fun e => by have := Kd.R_lt I3.out k e.symm; omega⟩, fun e => by have := Kd.R_lt R3.out k e.symm; omega⟩
            have HFR := Aside0.mk hfr
            have hl4 : ((flatXL (x.f2.take i) ((at_ : Int) + 1)).length + sizeX y) * 64 ≤ 140737488355328 := by rw [flatXL_length, HRR.out]; have := HBD.out; omega
            have HL4 := Aside0.mk hl4
            rw [flatX_len]
            clear hr hr2 hb4 l4 C4 hfr hl4
            go_wp2_with ((with_reducible refine gate_builtin (b := .append) (xs := #[.tmp 56, .tmp 67]) rfl ?_); at_builtin; go_must (refine Kd.R_append_rows kTN (w0 := W1) W1.heap.size rfl (.tmp 56) (.tmp 67) 27 89 (.agg #[.bool false, .slice none 0 0, .slice none 0 0, .int .i64 0]) 64 rfl Try.underlying27 infoTN rfl (by decide) (by decide) (.slice DR r cR) (flatXL (x.f2.take i) ((at_ : Int) + 1)) (flatX y ((at_ : Int) + 1 + (r : Int))) D4 (sizeX y) c4 (fun k => (wq.heap.size ≤ k ∧ some k ≠ vL.ownBlock) ∧ some k ≠ vJ.ownBlock) _ rfl rfl (Kd.R_below R3.out HB4.out) C4'.out (fun _ _ h => h) (fun k hk => HFR.out k hk.1) (fun k hk => (HFR.out k (Nat.le_trans HB4.out.size hk)).1) (below_step B3.out HB4.out) (below_step B3.out HB4.out).size HL4.out ?_; intro v5 w5 hR hb hg hat; have R5 := Aside0.mk hR; have B5 := Aside0.mk hb; have HG5 := Aside0.mk hg; clear hR hb hg hat))
            go_roundw
            case rel =>
              refine ⟨i + 1, vL, vJ, by omega, by go_num, B5, ⟨Nat.le_trans S3.out (Nat.le_trans HB4.out.size HG5.out.size)⟩, ⟨blk_grown (blk_below N3.out HB4.out) HG5.out (fun e => by have := (R3.out.1 g e.symm).1.1; have := HGL.out; omega)⟩, ⟨Kd.R_grown2 (Kd.R_below K3.out HB4.out) rfl HG5.out (fun k hk => (R3.out.1 k hk).1.2)⟩, ⟨Kd.R_grown2 (Kd.R_below I3.out HB4.out) rfl HG5.out (fun k hk => (R3.out.1 k hk).2)⟩, ⟨?_⟩⟩
              rw [HTK.out, flatXL_append, HRR.out]
              simpa [flatXL] using R5.out
            case measure => simp [intOf]; omega
        · have htk : x.f2.take i = x.f2 := List.take_of_length_le (by omega)
          have hsl : sizeXL x.f2 + 1 ≤ 1048576 := by
            have h1 := HSZ.out
            rw [sizeX_mk, HHL.out] at h1
            simpa using h1
          rw [htk] at HK HI HR ⊢
          have HFX := Aside0.mk (show flatX x (at_ : Int) = ⟨false, sepsX x.f2, posX x.f2 ((at_ : Int) + 1), (n : Int)⟩ :: flatXL x.f2 ((at_ : Int) + 1) by
            have e := HHL.out
            have e2 := HN.out
            rw [keysX_mk, e] at e2
            simp only [Bool.false_eq_true, if_false] at e2
            cases x with
            | mk f0 f1 f2 =>
              simp only at e e2
              subst e
              simp only [flatX, Bool.false_eq_true, if_false, e2])
          have HSL := Aside0.mk hsl
          have hr2 := Kd.R_mono (Kd.R_bound HR.out) (ok' := fun k => wq.heap.size ≤ k ∧ k < wr.heap.size) (fun k hk => ⟨hk.1.1.1, hk.2.2.1⟩)
          have HR2 := Aside0.mk hr2
          obtain ⟨DK, cK, eK⟩ := Kd.R_slice HK.out
          subst eK
          obtain ⟨DI, cI, eI⟩ := Kd.R_slice HI.out
          subst eI
          have hlt2 : ¬ (i : Int) < (x.f2.length : Int) := by omega
          clear htk hsl hr2
          go_wp2_with (first | ((with_reducible refine gate_dst (N := 70) rfl ?_); go_must (refine Kd.R_lit kTN (w0 := W1) W1.heap.size 89 ?hg (N := 70) ?hd (xs := [(⟨false, sepsX x.f2, posX x.f2 ((at_ : Int) + 1), (n : Int)⟩ : TN)]) (inner := [.bool false, .slice DK (sepsX x.f2).length cK, .slice DI (posX x.f2 ((at_ : Int) + 1)).length cI, .int .i64 n]) (ok := fun k => wq.heap.size ≤ k) (okp := fun k => wq.heap.size ≤ k) ?hr (Reps.c4 (PFnTree.k89_mkM _ _ _ ⟨false, sepsX x.f2, posX x.f2 ((at_ : Int) + 1), (n : Int)⟩ (Kd.R_mono HK.out (fun k hk => hk.1)) HI.out) (Reps.none _ _)) (fun _ hk => hk) HSR.out HB.out HB.out.size (by simp) ?_; (case hd => rfl); (case hg => rfl); (case hr => first | (go_simp; done) | (go_simp; rfl)); intro v5 w5 ho hb hg hat; have HO6 := Aside0.mk ho; have HB6 := Aside0.mk hb; have HG6 := Aside0.mk hg; have HA6 := Aside0.mk hat; have HR6 := Aside0.mk (Kd.R_grown HR2.out hg (fun k _ => by simp)); obtain ⟨DL, cL, eL, lL, CL⟩ := OwnRow.reads HR6.out.2; injection eL with q1 q2 q3; subst q1 q3; rw [flatXL_length] at CL; have CL' := Aside0.mk CL; clear ho hb hg hat CL lL q2)) | ((with_reducible refine gate_builtin (b := .append) (xs := #[.tmp 70, .tmp 71]) rfl ?_); at_builtin; go_must (refine Kd.R_append_rows kTN (w0 := W1) W1.heap.size rfl (.tmp 70) (.tmp 71) 27 89 (.agg #[.bool false, .slice none 0 0, .slice none 0 0, .int .i64 0]) 64 rfl Try.underlying27 infoTN rfl (by decide) (by decide) v5 [(⟨false, sepsX x.f2, posX x.f2 ((at_ : Int) + 1), (n : Int)⟩ : TN)] (flatXL x.f2 ((at_ : Int) + 1)) DR (sizeXL x.f2) cR (fun k => wq.heap.size ≤ k) _ rfl rfl HO6.out CL'.out (fun _ _ h => h) (fun k hk => ⟨hk.1.1, fun e => by obtain ⟨b, hb, hle⟩ := HA6.out; rw [hb] at e; injection e with e; have := hk.1.2; omega⟩) (fun k hk => Nat.le_trans HSR.out (Nat.le_trans HG6.out.size hk)) HB6.out HB6.out.size (by have := HSL.out; simp only [List.length_singleton]; omega) ?_; intro v7 w7 hR hb _ _; have R7 := Aside0.mk hR; have B7 := Aside0.mk hb; clear hR hb)))
          go_ret
          refine ⟨v7, rfl, ?_, below_step HB1.out B7.out⟩
          rw [HFX.out]
          exact Kd.R_mono (Kd.R_lower R7.out HB1.out.size) (fun _ _ => trivial)
end Go.Proofs.Ytnfaiblhjgmjgaa
