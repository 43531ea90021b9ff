/-
  The reference's l3Of: the nested tree of a valid tree.
-/
import Derived.Test.YtnfaiblhjgmjgaaOfPure
namespace Go.Proofs.Ytnfaiblhjgmjgaa
open Go.RowKit Go.Proofs.YtnfaiblhjgmjgaaW.PrintWords

def OfNo (w : World) (e : Ending) (w' : World) : Prop := ∃ (x : LX) (A1 : Option Addr) (c1 : Nat) (A2 : Option Addr) (c2 : Nat), e = .returned (.tuple #[.agg #[.bool x.f0, .slice A1 x.f1.length c1, .slice A2 x.f2.length c2], .bool false]) ∧ Below w.heap.size w w' ∧
  Kd.C Kd.string w' A1 x.f1.length x.f1 ∧ x.f1.length ≤ c1 ∧ Kd.C kLX w' A2 x.f2.length x.f2 ∧ x.f2.length ≤ c2 ∧ (keysX x).length ≤ 20000 ∧ sizeX x ≤ 5000
theorem of_no_zero {w w' : World} (h : Below w.heap.size w w') : OfNo w (.returned (.tuple #[.agg #[.bool false, .slice none 0 0, .slice none 0 0], .bool false])) w' :=
  ⟨⟨false, [], []⟩, none, 0, none, 0, rfl, h, Kd.C_nil _ _, Nat.le_refl _, Kd.C_nil _ _, Nat.le_refl _, by simp [keysX, keysXL], by simp [sizeX, sizeXL]⟩
def OfYes (w : World) (x : LX) (e : Ending) (w' : World) : Prop := ∃ A1 c1 A2 c2, e = .returned (.tuple #[.agg #[.bool x.f0, .slice A1 x.f1.length c1, .slice A2 x.f2.length c2], .bool true]) ∧ Below w.heap.size w w' ∧
  Kd.C Kd.string w' A1 x.f1.length x.f1 ∧ x.f1.length ≤ c1 ∧ Kd.C kLX w' A2 x.f2.length x.f2 ∧ x.f2.length ≤ c2
def OfPost (w : World) (e : Ending) (w' : World) : Option LX → Prop
  | none => OfNo w e w'
  | some x => OfYes w x e w'

theorem nest0 (ns : List TN) (hn : ns.length ≤ 5000) (w0 w : World) (A : Option Addr) (c : Nat) (hb : Below w0.heap.size w0 w) (h : Kd.C kTN w0 A ns.length ns) :
    Calls Try.prog 46 #[.slice A ns.length c, .int .i64 0, .int .i64 0] w (fun e w' => NestPost w0 w e w' (nestN ns 21 0)) := by
  have := nest_any ns hn 21 (by omega) w0 w A c 0 hb h (by omega)
  rw [show ((21 - 21 : Nat) : Int) = 0 from rfl] at this
  exact this

theorem str_at {w : World} {base e : Nat} {ok : Nat → Prop} {D : Option Addr} {n c : Nat} {xs : List ByteArray} (h : Kd.R Kd.string e w base ok (.slice D n c) xs) (hn : 0 < xs.length) : ∃ g, D = some ⟨g, 0, none⟩ ∧ ∀ i k, xs[i]? = some k → w.cell? ⟨g, i, none⟩ = some (.string k) := by
  obtain ⟨g, cap, hv, _⟩ := Kd.R_form h hn
  injection hv with h1 h2 h3
  subst h1 h2
  refine ⟨g, rfl, fun i k hk => ?_⟩
  have hi := (List.getElem?_eq_some_iff.1 hk).1
  obtain ⟨cc, _, hM, hcc⟩ := Kd.R_getA h ⟨#[]⟩ (i : Int) (by omega) (by omega)
  rw [Int.toNat_natCast] at hM hcc
  have hc : cc = [.string (xs.getD i ⟨#[]⟩)] := hM
  have h3 := hcc 0 (.string (xs.getD i ⟨#[]⟩)) (by rw [hc]; rfl)
  have h4 : xs.getD i ⟨#[]⟩ = k := by simp [List.getD_eq_getElem?_getD, hk]
  rw [h4, add_plain] at h3
  rw [← h3]
  show _ = w.cell? ⟨g, i * 1 + 0, none⟩
  rw [Nat.mul_one, Nat.add_zero]

/-- Where l3Of begins. -/
abbrev ofW (w : World) (A : Option Addr) (n c : Nat) : World := (w.alloc (.cells #[.slice A n c] 29)).alloc (.cells #[.bool false, .slice none 0 0, .slice none 0 0] 53)

set_option maxHeartbeats 1000000 in
set_option maxRecDepth 100000 in
theorem of_size (A : Option Addr) (c : Nat) (ns : List TN) (w : World) (hbad : ns.length < 1 ∨ 5000 < ns.length) :
    Calls Try.prog 28 #[.agg #[.slice A ns.length c]] w (OfNo w) := by
  by_cases h1 : ns.length < 1
  · have d1 : decide ((ns.length : Int) < 1) = true := decide_eq_true (by omega)
    have d2 : decide (ns.length < 1) = true := decide_eq_true (by omega)
    clear hbad
    go_enter Try.func28, Try.ntmps28
    go_wp2
    refine bodyPost_ret (v := .tuple #[.agg #[.bool false, .slice none 0 0, .slice none 0 0], .bool false]) (by simp [results, Try.results28, go_sem]) rfl ?_
    exact of_no_zero (below_alloc (below_alloc (Below.refl _ _) _) _)
  · have h2 : 5000 < ns.length := by omega
    have d1 : decide ((ns.length : Int) < 1) = false := decide_eq_false (by omega)
    have d2 : decide (ns.length < 1) = false := decide_eq_false (by omega)
    have d3 : decide ((5000 : Int) < (ns.length : Int)) = true := decide_eq_true (by omega)
    have d4 : decide (5000 < ns.length) = true := decide_eq_true (by omega)
    clear hbad
    go_enter Try.func28, Try.ntmps28
    go_wp2
    refine bodyPost_ret (v := .tuple #[.agg #[.bool false, .slice none 0 0, .slice none 0 0], .bool false]) (by simp [results, Try.results28, go_sem]) rfl ?_
    exact of_no_zero (below_alloc (below_alloc (Below.refl _ _) _) _)

set_option maxHeartbeats 1000000 in
set_option maxRecDepth 100000 in
theorem of_no (A : Option Addr) (c : Nat) (ns : List TN) (w : World) (hns : Kd.C kTN w A ns.length ns) (h1 : 1 ≤ ns.length) (h2 : ns.length ≤ 5000) (hn : nestN ns 21 0 = none) :
    Calls Try.prog 28 #[.agg #[.slice A ns.length c]] w (OfNo w) := by
  have HC := nest0 ns h2 w (ofW w A ns.length c) A c (below_alloc (below_alloc (Below.refl _ _) _) _) hns
  rw [hn] at HC
  have HC : Aside0 (Calls Try.prog 46 #[.slice A ns.length c, .int .i64 0, .int .i64 0] (ofW w A ns.length c) (fun e w' => NestNo (ofW w A ns.length c) e w')) := ⟨HC⟩
  have d1 : decide ((ns.length : Int) < 1) = false := decide_eq_false (by omega)
  have d2 : decide (ns.length < 1) = false := decide_eq_false (by omega)
  have d3 : decide ((5000 : Int) < (ns.length : Int)) = false := decide_eq_false (by omega)
  have d4 : decide (5000 < ns.length) = false := decide_eq_false (by omega)
  clear hns hn
  go_enter Try.func28, Try.ntmps28
  go_wp2_with fail
  refine HC.out.mono ?_
  rintro e w' ⟨l, B1, n1, e1, B2, n2, e2, at', rfl, hb⟩
  have B0 : w'.heap[w.heap.size + 1]? = some (.cells #[.bool false, .slice none 0 0, .slice none 0 0] 53 (0, 0)) := by
    have := blk_new (w.alloc (.cells #[.slice A ns.length c] 29)) (.cells #[.bool false, .slice none 0 0, .slice none 0 0] 53)
    rw [World.size_alloc] at this
    exact blk_below this hb
  have X0 : w'.heap[w.heap.size]? = some (.cells #[.slice A ns.length c] 29 (0, 0)) := blk_below (blk_alloc (blk_new _ _) _) hb
  have HB := Aside0.mk (below_step (below_alloc (below_alloc (Below.refl w.heap.size w) (.cells #[.slice A ns.length c] 29)) (.cells #[.bool false, .slice none 0 0, .slice none 0 0] 53)) hb)
  have x0 : w'.cell? ⟨w.heap.size, 0, none⟩ = some (.slice A ns.length c) := (blkcell X0 0).trans rfl
  have r0 : w'.cell? ⟨w.heap.size + 1, 0, none⟩ = some (.bool false) := (blkcell B0 0).trans rfl
  have r1 : w'.cell? ⟨w.heap.size + 1, 1, none⟩ = some (.slice none 0 0) := (blkcell B0 1).trans rfl
  have r2 : w'.cell? ⟨w.heap.size + 1, 2, none⟩ = some (.slice none 0 0) := (blkcell B0 2).trans rfl
  have z0 : w'.frozen? ⟨w.heap.size + 1, 0, none⟩ = false := blk_frozen B0 0
  have z1 : w'.frozen? ⟨w.heap.size + 1, 1, none⟩ = false := blk_frozen B0 1
  have z2 : w'.frozen? ⟨w.heap.size + 1, 2, none⟩ = false := blk_frozen B0 2
  have hlt : w.heap.size + 1 < w'.heap.size := blk_lt B0
  clear B0 X0 hb
  go_wp2
  refine bodyPost_ret (v := .tuple #[.agg #[.bool false, .slice none 0 0, .slice none 0 0], .bool false]) (by simp [results, Try.results28, go_sem, r0, r1, r2, hlt]) rfl ?_
  exact of_no_zero (below_alloc (below_set (below_set (below_set HB.out (by omega)) (by omega)) (by omega)) _)
set_option maxHeartbeats 1000000 in
set_option maxRecDepth 100000 in
theorem of_end (A : Option Addr) (c : Nat) (ns : List TN) (w : World) (x : LX) (nx : Nat) (hns : Kd.C kTN w A ns.length ns) (h1 : 1 ≤ ns.length) (h2 : ns.length ≤ 5000) (hn : nestN ns 21 0 = some (x, nx)) (hx : nx ≠ ns.length) :
    Calls Try.prog 28 #[.agg #[.slice A ns.length c]] w (OfNo w) := by
  have HC := nest0 ns h2 w (ofW w A ns.length c) A c (below_alloc (below_alloc (Below.refl _ _) _) _) hns
  rw [hn] at HC
  have HC : Aside0 (Calls Try.prog 46 #[.slice A ns.length c, .int .i64 0, .int .i64 0] (ofW w A ns.length c) (fun e w' => NestYes w (ofW w A ns.length c) x nx e w')) := ⟨HC⟩
  have d1 : decide ((ns.length : Int) < 1) = false := decide_eq_false (by omega)
  have d2 : decide (ns.length < 1) = false := decide_eq_false (by omega)
  have d3 : decide ((5000 : Int) < (ns.length : Int)) = false := decide_eq_false (by omega)
  have d4 : decide (5000 < ns.length) = false := decide_eq_false (by omega)
  have q1 : ((nx : Int) != (ns.length : Int)) = true := by simp; omega
  have q2 : (nx != ns.length) = true := by simp; omega
  clear hns hn hx
  go_enter Try.func28, Try.ntmps28
  go_wp2_with fail
  refine HC.out.mono ?_
  rintro e w' ⟨B1, e1, B2, e2, rfl, hb, hst⟩
  have B0 : w'.heap[w.heap.size + 1]? = some (.cells #[.bool false, .slice none 0 0, .slice none 0 0] 53 (0, 0)) := by
    have := blk_new (w.alloc (.cells #[.slice A ns.length c] 29)) (.cells #[.bool false, .slice none 0 0, .slice none 0 0] 53)
    rw [World.size_alloc] at this
    exact blk_below this hb
  have X0 : w'.heap[w.heap.size]? = some (.cells #[.slice A ns.length c] 29 (0, 0)) := blk_below (blk_alloc (blk_new _ _) _) hb
  have HB := Aside0.mk (below_step (below_alloc (below_alloc (Below.refl w.heap.size w) (.cells #[.slice A ns.length c] 29)) (.cells #[.bool false, .slice none 0 0, .slice none 0 0] 53)) hb)
  obtain ⟨A1', c1', A2', c2', hcs, L1, K1, L2, K2⟩ := PFnTree.k53_open (hst.now HB.out)
  obtain ⟨⟨rfl, rfl⟩, rfl, rfl⟩ : (B1 = A1' ∧ e1 = c1') ∧ B2 = A2' ∧ e2 = c2' := by simpa using hcs
  have x0 : w'.cell? ⟨w.heap.size, 0, none⟩ = some (.slice A ns.length c) := (blkcell X0 0).trans rfl
  have r0 : w'.cell? ⟨w.heap.size + 1, 0, none⟩ = some (.bool false) := (blkcell B0 0).trans rfl
  have r1 : w'.cell? ⟨w.heap.size + 1, 1, none⟩ = some (.slice none 0 0) := (blkcell B0 1).trans rfl
  have r2 : w'.cell? ⟨w.heap.size + 1, 2, none⟩ = some (.slice none 0 0) := (blkcell B0 2).trans rfl
  have z0 : w'.frozen? ⟨w.heap.size + 1, 0, none⟩ = false := blk_frozen B0 0
  have z1 : w'.frozen? ⟨w.heap.size + 1, 1, none⟩ = false := blk_frozen B0 1
  have z2 : w'.frozen? ⟨w.heap.size + 1, 2, none⟩ = false := blk_frozen B0 2
  have hlt : w.heap.size + 1 < w'.heap.size := blk_lt B0
  have hlt0 : w.heap.size < w'.heap.size := by omega
  have HL1 := Aside0.mk L1
  have HL2 := Aside0.mk L2
  have HK1 := Aside0.mk K1
  have HK2 := Aside0.mk K2
  have HX0 := Aside0.mk X0
  have HB0 := Aside0.mk B0
  have HST := Aside0.mk hst
  clear B0 X0 hb hst L1 L2 K1 K2 hcs
  go_wp2
  refine bodyPost_ret (v := .tuple #[.agg #[.bool false, .slice none 0 0, .slice none 0 0], .bool false]) (by simp [results, Try.results28, go_sem, r0, r1, r2, hlt]) rfl ?_
  exact of_no_zero (below_alloc (below_set (below_set (below_set HB.out (by omega)) (by omega)) (by omega)) _)

set_option maxHeartbeats 1000000 in
set_option maxRecDepth 100000 in
theorem of_deep (A : Option Addr) (c : Nat) (ns : List TN) (w : World) (x : LX) (hns : Kd.C kTN w A ns.length ns) (h1 : 1 ≤ ns.length) (h2 : ns.length ≤ 5000) (hn : nestN ns 21 0 = some (x, ns.length)) (hd : depthX x true < 0) :
    Calls Try.prog 28 #[.agg #[.slice A ns.length c]] w (OfNo w) := by
  obtain ⟨nx, hnx⟩ : ∃ nx, ns.length = nx := ⟨_, rfl⟩
  have hsz := nestN_size ns 21 0 x _ hn
  obtain ⟨kd, hkd⟩ := (l3Depth_ev x (by omega) true).rounds
  have HKD := Aside0.mk hkd
  have hdd : depthX x true = -1 := by have := (depthX_bd x true).1; omega
  clear hkd hnx
  obtain ⟨nx, hnx⟩ : ∃ nx, nx = ns.length := ⟨_, rfl⟩
  rw [← hnx] at hn
  have HC := nest0 ns h2 w (ofW w A ns.length c) A c (below_alloc (below_alloc (Below.refl _ _) _) _) hns
  rw [hn] at HC
  have HC : Aside0 (Calls Try.prog 46 #[.slice A ns.length c, .int .i64 0, .int .i64 0] (ofW w A ns.length c) (fun e w' => NestYes w (ofW w A ns.length c) x nx e w')) := ⟨HC⟩
  have d1 : decide ((ns.length : Int) < 1) = false := decide_eq_false (by omega)
  have d2 : decide (ns.length < 1) = false := decide_eq_false (by omega)
  have d3 : decide ((5000 : Int) < (ns.length : Int)) = false := decide_eq_false (by omega)
  have d4 : decide (5000 < ns.length) = false := decide_eq_false (by omega)
  have q1 : ((nx : Int) != (ns.length : Int)) = false := by simp; omega
  have q2 : (nx != ns.length) = false := by simp; omega
  have HDD := Aside0.mk hdd
  clear hns hn hnx hd hdd hsz
  go_enter Try.func28, Try.ntmps28
  go_wp2_with fail
  refine HC.out.mono ?_
  rintro e w' ⟨B1, e1, B2, e2, rfl, hb, hst⟩
  have B0 : w'.heap[w.heap.size + 1]? = some (.cells #[.bool false, .slice none 0 0, .slice none 0 0] 53 (0, 0)) := by
    have := blk_new (w.alloc (.cells #[.slice A ns.length c] 29)) (.cells #[.bool false, .slice none 0 0, .slice none 0 0] 53)
    rw [World.size_alloc] at this
    exact blk_below this hb
  have X0 : w'.heap[w.heap.size]? = some (.cells #[.slice A ns.length c] 29 (0, 0)) := blk_below (blk_alloc (blk_new _ _) _) hb
  have HB := Aside0.mk (below_step (below_alloc (below_alloc (Below.refl w.heap.size w) (.cells #[.slice A ns.length c] 29)) (.cells #[.bool false, .slice none 0 0, .slice none 0 0] 53)) hb)
  obtain ⟨A1', c1', A2', c2', hcs, L1, K1, L2, K2⟩ := PFnTree.k53_open (hst.now HB.out)
  obtain ⟨⟨rfl, rfl⟩, rfl, rfl⟩ : (B1 = A1' ∧ e1 = c1') ∧ B2 = A2' ∧ e2 = c2' := by simpa using hcs
  have x0 : w'.cell? ⟨w.heap.size, 0, none⟩ = some (.slice A ns.length c) := (blkcell X0 0).trans rfl
  have r0 : w'.cell? ⟨w.heap.size + 1, 0, none⟩ = some (.bool false) := (blkcell B0 0).trans rfl
  have r1 : w'.cell? ⟨w.heap.size + 1, 1, none⟩ = some (.slice none 0 0) := (blkcell B0 1).trans rfl
  have r2 : w'.cell? ⟨w.heap.size + 1, 2, none⟩ = some (.slice none 0 0) := (blkcell B0 2).trans rfl
  have z0 : w'.frozen? ⟨w.heap.size + 1, 0, none⟩ = false := blk_frozen B0 0
  have z1 : w'.frozen? ⟨w.heap.size + 1, 1, none⟩ = false := blk_frozen B0 1
  have z2 : w'.frozen? ⟨w.heap.size + 1, 2, none⟩ = false := blk_frozen B0 2
  have hlt : w.heap.size + 1 < w'.heap.size := blk_lt B0
  have hlt0 : w.heap.size < w'.heap.size := by omega
  have HL1 := Aside0.mk L1
  have HL2 := Aside0.mk L2
  have HK1 := Aside0.mk K1
  have HK2 := Aside0.mk K2
  have HX0 := Aside0.mk X0
  have HB0 := Aside0.mk B0
  have HST := Aside0.mk hst
  clear B0 X0 hb hst L1 L2 K1 K2 hcs
  have HCD := Aside0.mk (PFnTree.spec_l3Depth.calls kd x.f0 B1 e1 x.f1 B2 e2 x.f2 true (depthX x true) (w'.alloc (.cells #[.bool x.f0, .slice B1 x.f1.length e1, .slice B2 x.f2.length e2] 53)) (Kd.C_below HK1.out (below_alloc (Below.refl _ _) _)) HL1.out (Kd.C_below HK2.out (below_alloc (Below.refl _ _) _)) HL2.out HKD.out)
  go_wp2_with fail
  refine HCD.out.mono ?_
  rintro e w4 ⟨rfl, hb4⟩
  rw [HDD.out]
  have HB4 := Aside0.mk (below_step (below_alloc (Below.refl w'.heap.size w') (.cells #[.bool x.f0, .slice B1 x.f1.length e1, .slice B2 x.f2.length e2] 53)) hb4)
  have B4 := blk_below HB0.out HB4.out
  clear hb4 r0 r1 r2 z0 z1 z2 x0
  have r0 : w4.cell? ⟨w.heap.size + 1, 0, none⟩ = some (.bool false) := (blkcell B4 0).trans rfl
  have r1 : w4.cell? ⟨w.heap.size + 1, 1, none⟩ = some (.slice none 0 0) := (blkcell B4 1).trans rfl
  have r2 : w4.cell? ⟨w.heap.size + 1, 2, none⟩ = some (.slice none 0 0) := (blkcell B4 2).trans rfl
  have z0 : w4.frozen? ⟨w.heap.size + 1, 0, none⟩ = false := blk_frozen B4 0
  have z1 : w4.frozen? ⟨w.heap.size + 1, 1, none⟩ = false := blk_frozen B4 1
  have z2 : w4.frozen? ⟨w.heap.size + 1, 2, none⟩ = false := blk_frozen B4 2
  clear B4
  go_wp2
  refine bodyPost_ret (v := .tuple #[.agg #[.bool false, .slice none 0 0, .slice none 0 0], .bool false]) (by simp [results, Try.results28, go_sem, r0, r1, r2, hlt]) rfl ?_
  exact of_no_zero (below_set (below_set (below_set (below_step HB.out HB4.out) (by omega)) (by omega)) (by omega))
set_option maxHeartbeats 2000000 in
set_option maxRecDepth 100000 in
theorem of_good (A : Option Addr) (c : Nat) (ns : List TN) (w : World) (x : LX) (hns : Kd.C kTN w A ns.length ns) (hcap : ns.length ≤ c) (h1 : 1 ≤ ns.length) (h2 : ns.length ≤ 5000) (hn : nestN ns 21 0 = some (x, ns.length)) (hd : 0 ≤ depthX x true) (res : Option LX) (hres : (if ordOk (keysX x) = true then (if flatX x 0 = ns then some x else none) else none) = res) :
    Calls Try.prog 28 #[.agg #[.slice A ns.length c]] w (fun e w' => OfPost w e w' res) := by
  have HRES := Aside0.mk hres
  have HCAP := Aside0.mk hcap
  clear hres hcap
  have hsz := nestN_size ns 21 0 x _ hn
  have hkl := keys_le x true hd
  obtain ⟨kd, hkd⟩ := (l3Depth_ev x (by omega) true).rounds
  obtain ⟨kk, hkk⟩ := (l3Keys_ev x (by omega) (by omega)).rounds
  obtain ⟨nx, hnx⟩ : ∃ nx, nx = ns.length := ⟨_, rfl⟩
  rw [← hnx] at hn
  have HC := nest0 ns h2 w (ofW w A ns.length c) A c (below_alloc (below_alloc (Below.refl _ _) _) _) hns
  rw [hn] at HC
  have HC : Aside0 (Calls Try.prog 46 #[.slice A ns.length c, .int .i64 0, .int .i64 0] (ofW w A ns.length c) (fun e w' => NestYes w (ofW w A ns.length c) x nx e w')) := ⟨HC⟩
  have d1 : decide ((ns.length : Int) < 1) = false := decide_eq_false (by omega)
  have d2 : decide (ns.length < 1) = false := decide_eq_false (by omega)
  have d3 : decide ((5000 : Int) < (ns.length : Int)) = false := decide_eq_false (by omega)
  have d4 : decide (5000 < ns.length) = false := decide_eq_false (by omega)
  have q1 : ((nx : Int) != (ns.length : Int)) = false := by simp; omega
  have q2 : (nx != ns.length) = false := by simp; omega
  obtain ⟨dd, hdd⟩ : ∃ dd, depthX x true = dd := ⟨_, rfl⟩
  have q3 : decide (dd < 0) = false := decide_eq_false (by omega)
  obtain ⟨q, hq⟩ : ∃ q, (keysX x).length = q := ⟨_, rfl⟩
  have hq2 : q ≤ 20000 := by omega
  have HDD := Aside0.mk hdd
  have HD := Aside0.mk hd
  have HQ := Aside0.mk hq
  have HKD := Aside0.mk hkd
  have HKK := Aside0.mk hkk
  have HNS := Aside0.mk hns
  have HN := Aside0.mk hn
  have HNX := Aside0.mk hnx
  have HSZ := Aside0.mk hsz
  clear hns hn hnx hd hdd hsz hkd hkk hkl hq
  go_enter Try.func28, Try.ntmps28
  go_wp2_with fail
  refine HC.out.mono ?_
  rintro e w' ⟨B1, e1, B2, e2, rfl, hb, hst⟩
  have B0 : w'.heap[w.heap.size + 1]? = some (.cells #[.bool false, .slice none 0 0, .slice none 0 0] 53 (0, 0)) := by
    have := blk_new (w.alloc (.cells #[.slice A ns.length c] 29)) (.cells #[.bool false, .slice none 0 0, .slice none 0 0] 53)
    rw [World.size_alloc] at this
    exact blk_below this hb
  have X0 : w'.heap[w.heap.size]? = some (.cells #[.slice A ns.length c] 29 (0, 0)) := blk_below (blk_alloc (blk_new _ _) _) hb
  have HB := Aside0.mk (below_step (below_alloc (below_alloc (Below.refl w.heap.size w) (.cells #[.slice A ns.length c] 29)) (.cells #[.bool false, .slice none 0 0, .slice none 0 0] 53)) hb)
  obtain ⟨A1', c1', A2', c2', hcs, L1, K1, L2, K2⟩ := PFnTree.k53_open (hst.now HB.out)
  obtain ⟨⟨rfl, rfl⟩, rfl, rfl⟩ : (B1 = A1' ∧ e1 = c1') ∧ B2 = A2' ∧ e2 = c2' := by simpa using hcs
  have x0 : w'.cell? ⟨w.heap.size, 0, none⟩ = some (.slice A ns.length c) := (blkcell X0 0).trans rfl
  have r0 : w'.cell? ⟨w.heap.size + 1, 0, none⟩ = some (.bool false) := (blkcell B0 0).trans rfl
  have r1 : w'.cell? ⟨w.heap.size + 1, 1, none⟩ = some (.slice none 0 0) := (blkcell B0 1).trans rfl
  have r2 : w'.cell? ⟨w.heap.size + 1, 2, none⟩ = some (.slice none 0 0) := (blkcell B0 2).trans rfl
  have z0 : w'.frozen? ⟨w.heap.size + 1, 0, none⟩ = false := blk_frozen B0 0
  have z1 : w'.frozen? ⟨w.heap.size + 1, 1, none⟩ = false := blk_frozen B0 1
  have z2 : w'.frozen? ⟨w.heap.size + 1, 2, none⟩ = false := blk_frozen B0 2
  have hlt : w.heap.size + 1 < w'.heap.size := blk_lt B0
  have hlt0 : w.heap.size < w'.heap.size := by omega
  have HL1 := Aside0.mk L1
  have HL2 := Aside0.mk L2
  have HK1 := Aside0.mk K1
  have HK2 := Aside0.mk K2
  have HX0 := Aside0.mk X0
  have HB0 := Aside0.mk B0
  have HST := Aside0.mk hst
  clear B0 X0 hb hst L1 L2 K1 K2 hcs
  have HCD := Aside0.mk (PFnTree.spec_l3Depth.calls kd x.f0 B1 e1 x.f1 B2 e2 x.f2 true (depthX x true) (w'.alloc (.cells #[.bool x.f0, .slice B1 x.f1.length e1, .slice B2 x.f2.length e2] 53)) (Kd.C_below HK1.out (below_alloc (Below.refl _ _) _)) HL1.out (Kd.C_below HK2.out (below_alloc (Below.refl _ _) _)) HL2.out HKD.out)
  go_wp2_with fail
  refine HCD.out.mono ?_
  rintro e w4 ⟨rfl, hb4⟩
  rw [HDD.out]
  have HB4 := Aside0.mk (below_step (below_alloc (Below.refl w'.heap.size w') (.cells #[.bool x.f0, .slice B1 x.f1.length e1, .slice B2 x.f2.length e2] 53)) hb4)
  have Y4 := Aside0.mk (blk_below (blk_new w' (.cells #[.bool x.f0, .slice B1 x.f1.length e1, .slice B2 x.f2.length e2] 53)) hb4)
  have y0 : w4.cell? ⟨w'.heap.size, 0, none⟩ = some (.bool x.f0) := (blkcell Y4.out 0).trans rfl
  have y1 : w4.cell? ⟨w'.heap.size, 1, none⟩ = some (.slice B1 x.f1.length e1) := (blkcell Y4.out 1).trans rfl
  have y2 : w4.cell? ⟨w'.heap.size, 2, none⟩ = some (.slice B2 x.f2.length e2) := (blkcell Y4.out 2).trans rfl
  have HCK := Aside0.mk (PFnTree.spec_l3Keys.calls kk x.f0 B1 e1 x.f1 B2 e2 x.f2 (keysX x) w4 (Kd.C_below HK1.out HB4.out) HL1.out (Kd.C_below HK2.out HB4.out) HL2.out HKK.out)
  clear hb4 r0 r1 r2 z0 z1 z2 x0
  go_wp2_with fail
  refine HCK.out.mono ?_
  rintro e w5 ⟨v, rfl, hr, hb5⟩
  obtain ⟨DK, cK, eK⟩ := Kd.R_slice hr
  rw [HQ.out] at eK
  subst eK
  have HB5 := Aside0.mk hb5
  have HR := Aside0.mk hr
  have HB45 := Aside0.mk (below_step HB4.out hb5)
  have Y5 := Aside0.mk (blk_below Y4.out hb5)
  have HBX := Aside0.mk (blk_below HX0.out HB45.out)
  have HBZ := Aside0.mk (blk_below HB0.out HB45.out)
  clear hr hb5 y0 y1 y2
  go_wp2_with fail
  go_loopw [8] (fun v8 wr => ∃ i : Nat, i ≤ q ∧ v8 = .int .i64 i ∧ Aside0 (Below w5.heap.size w5 wr) ∧ Aside0 ((runK ordStep (⟨#[]⟩, true) ((keysX x).take i)).2 = true)) (fun iv _ => q - (intOf iv).toNat)
  case atStart => exact ⟨0, Nat.zero_le _, rfl, ⟨Below.refl _ _⟩, ⟨by simp [runK]⟩⟩
  case round =>
    obtain ⟨i, hi, rfl, HBR, HRK⟩ := hrel
    by_cases hlt1 : i < q
    · obtain ⟨key, hkey⟩ : ∃ key, (keysX x)[i]? = some key := ⟨_, List.getElem?_eq_getElem (by rw [HQ.out]; exact hlt1)⟩
      have hql : 0 < (keysX x).length := by rw [HQ.out]; omega
      obtain ⟨g, rfl, HKEY⟩ := str_at HR.out hql
      have ck : wr.cell? ⟨g, i, none⟩ = some (.string key) := pw_cell_below HBR.out (HKEY i key hkey)
      have i0 : (0 : Int) ≤ (i : Int) := Int.natCast_nonneg _
      have i1 : (i : Int) < (q : Int) := by omega
      have HORD := Aside0.mk (ord_next (keysX x) i key hkey HRK.out)
      have HEQ := Aside0.mk (ordB_eq (keysX x) i key)
      have r0 : wr.cell? ⟨w.heap.size + 1, 0, none⟩ = some (.bool false) := (blkcell (blk_below HBZ.out HBR.out) 0).trans rfl
      have r1 : wr.cell? ⟨w.heap.size + 1, 1, none⟩ = some (.slice none 0 0) := (blkcell (blk_below HBZ.out HBR.out) 1).trans rfl
      have r2 : wr.cell? ⟨w.heap.size + 1, 2, none⟩ = some (.slice none 0 0) := (blkcell (blk_below HBZ.out HBR.out) 2).trans rfl
      have z0 : wr.frozen? ⟨w.heap.size + 1, 0, none⟩ = false := blk_frozen (blk_below HBZ.out HBR.out) 0
      have z1 : wr.frozen? ⟨w.heap.size + 1, 1, none⟩ = false := blk_frozen (blk_below HBZ.out HBR.out) 1
      have z2 : wr.frozen? ⟨w.heap.size + 1, 2, none⟩ = false := blk_frozen (blk_below HBZ.out HBR.out) 2
      have HBW := Aside0.mk (below_step (below_step HB.out (below_step HB4.out HB5.out)) HBR.out)
      by_cases hbig : 16 < key.size
      · have b1 : decide ((16 : Int) < (key.size : Int)) = true := decide_eq_true (by omega)
        have b2 : decide (16 < key.size) = true := decide_eq_true hbig
        have hfin : res = none := by
          have : ordOk (keysX x) = false := by
            refine ord_bad (keysX x) (i + 1) ?_
            rw [HORD.out, HEQ.out, decide_eq_false (by omega)]
            rfl
          rw [← HRES.out, this]
          rfl
        have HFIN := Aside0.mk hfin
        clear hfin hbig hkey hql
        go_wp2_with fail
        go_quiet (fail)
        go_wp2
        refine bodyPost_ret (v := .tuple #[.agg #[.bool false, .slice none 0 0, .slice none 0 0], .bool false]) (by simp [results, Try.results28, go_sem, r0, r1, r2, hlt]) rfl ?_
        rw [HFIN.out]
        exact of_no_zero (below_set (below_set (below_set (pw_below_drewN HBW.out _) (by omega)) (by omega)) (by omega))
      · have b1 : decide ((16 : Int) < (key.size : Int)) = false := decide_eq_false (by omega)
        have b2 : decide (16 < key.size) = false := decide_eq_false hbig
        by_cases hi0 : i = 0
        · have b3 : decide ((0 : Int) < (i : Int)) = false := decide_eq_false (by omega)
          have b4 : decide (0 < i) = false := decide_eq_false (by omega)
          have hnx : (runK ordStep (⟨#[]⟩, true) ((keysX x).take (i + 1))).2 = true := by
            rw [HORD.out, HEQ.out, decide_eq_true (show key.size ≤ 16 by omega), decide_eq_true hi0]
            rfl
          have HNXT := Aside0.mk hnx
          clear hnx hbig hkey hql hi0
          go_wp2_with fail
          go_quiet (fail)
          go_wp2
          go_roundw
          case rel => exact ⟨i + 1, by omega, by go_num, ⟨pw_below_drewN HBR.out _⟩, HNXT⟩
          case measure => simp [intOf]; omega
        · have b3 : decide ((0 : Int) < (i : Int)) = true := decide_eq_true (by omega)
          have b4 : decide (0 < i) = true := decide_eq_true (by omega)
          obtain ⟨prev, hprev⟩ : ∃ prev, (keysX x)[i - 1]? = some prev := ⟨_, List.getElem?_eq_getElem (by rw [HQ.out]; omega)⟩
          have hpd : (keysX x).getD (i - 1) ⟨#[]⟩ = prev := by simp [List.getD_eq_getElem?_getD, hprev]
          have cp : wr.cell? ⟨g, i - 1, none⟩ = some (.string prev) := pw_cell_below HBR.out (HKEY (i - 1) prev hprev)
          have w1 : (0 : Int) ≤ (i : Int) - 1 := by omega
          have w2 : (i : Int) - 1 < (q : Int) := by omega
          have w3 : ((i : Int) - 1).toNat = i - 1 := by omega
          have w4 : IntKind.i64.wrap ((i : Int) - 1) = (i : Int) - 1 := IntWalk.i64_in _ (by omega)
          cases hls : Op.bytesLess prev.toList key.toList with
          | true =>
            have hnx : (runK ordStep (⟨#[]⟩, true) ((keysX x).take (i + 1))).2 = true := by
              rw [HORD.out, HEQ.out, decide_eq_true (show key.size ≤ 16 by omega), hpd, hls]
              simp
            have HNXT := Aside0.mk hnx
            clear hnx hbig hkey hql hi0 hprev hpd
            go_wp2_with fail
            go_quiet (fail)
            go_wp2
            go_roundw
            case rel => exact ⟨i + 1, by omega, by go_num, ⟨pw_below_drewN HBR.out _⟩, HNXT⟩
            case measure => simp [intOf]; omega
          | false =>
            have hfin : res = none := by
              have : ordOk (keysX x) = false := by
                refine ord_bad (keysX x) (i + 1) ?_
                rw [HORD.out, HEQ.out, hpd, hls, decide_eq_false hi0]
                simp
              rw [← HRES.out, this]
              rfl
            have HFIN := Aside0.mk hfin
            clear hfin hbig hkey hql hi0 hprev hpd
            go_wp2_with fail
            go_quiet (fail)
            go_wp2
            refine bodyPost_ret (v := .tuple #[.agg #[.bool false, .slice none 0 0, .slice none 0 0], .bool false]) (by simp [results, Try.results28, go_sem, r0, r1, r2, hlt]) rfl ?_
            rw [HFIN.out]
            exact of_no_zero (below_set (below_set (below_set (pw_below_drewN HBW.out _) (by omega)) (by omega)) (by omega))
    · obtain rfl : i = q := by omega
      have hord : ordOk (keysX x) = true := ord_all (keysX x) (by have := HRK.out; rw [← HQ.out] at this; exact this)
      have hres2 : (if flatX x 0 = ns then some x else none) = res := by have := HRES.out; rw [hord] at this; exact this
      have HRES2 := Aside0.mk hres2
      have hsm := flat_small x true HD.out 0
      have hfl := flatX_len x 0
      have hszx := HSZ.out
      obtain ⟨ks, hks⟩ := (sameNodes_ev (flatX x 0) ns (by omega) (fun t ht => by have := hsm t ht; omega) (decide (flatX x 0 = ns)) (by simp)).rounds
      have hkl := keys_le x true HD.out
      have HKS := Aside0.mk hks
      have b0 := blk_below HBX.out HBR.out
      have x0 : wr.cell? ⟨w.heap.size, 0, none⟩ = some (.slice A ns.length c) := (blkcell b0 0).trans rfl
      have b1 := blk_below Y5.out HBR.out
      have y0 : wr.cell? ⟨w'.heap.size, 0, none⟩ = some (.bool x.f0) := (blkcell b1 0).trans rfl
      have y1 : wr.cell? ⟨w'.heap.size, 1, none⟩ = some (.slice B1 x.f1.length e1) := (blkcell b1 1).trans rfl
      have y2 : wr.cell? ⟨w'.heap.size, 2, none⟩ = some (.slice B2 x.f2.length e2) := (blkcell b1 2).trans rfl
      have HBR4 := Aside0.mk (below_step HB45.out HBR.out)
      have HBW6 := Aside0.mk (below_step HB.out HBR4.out)
      have HF := flat_any x true HD.out (by omega) (by omega) wr.drew 0 B1 e1 B2 e2 (by omega) (Kd.C_below HK1.out (below_drew HBR4.out)) HL1.out (Kd.C_below HK2.out (below_drew HBR4.out)) HL2.out
      rw [show ((0 : Nat) : Int) = 0 from rfl] at HF
      have HCF := Aside0.mk HF
      clear hord hres2 hsm hfl hszx hks hkl b0 b1 HF
      have KP : ∀ W', KeepBut wr W' (w.heap.size + 1) none → (W'.cell? ⟨w.heap.size, 0, none⟩ = some (.slice A ns.length c) ∧ W'.cell? ⟨w'.heap.size, 0, none⟩ = some (.bool x.f0) ∧ W'.cell? ⟨w'.heap.size, 1, none⟩ = some (.slice B1 x.f1.length e1) ∧ W'.cell? ⟨w'.heap.size, 2, none⟩ = some (.slice B2 x.f2.length e2)) ∧ KeepBut wr W' (w.heap.size + 1) none := by
        intro W' hk
        have k0 : W'.heap[w.heap.size]? = _ := (hk.2 _ (blk_lt (blk_below HBX.out HBR.out)) (by omega) (by simp)).trans (blk_below HBX.out HBR.out)
        have k1 : W'.heap[w'.heap.size]? = _ := (hk.2 _ (blk_lt (blk_below Y5.out HBR.out)) (by omega) (by simp)).trans (blk_below Y5.out HBR.out)
        exact ⟨⟨(blkcell k0 0).trans rfl, (blkcell k1 0).trans rfl, (blkcell k1 1).trans rfl, (blkcell k1 2).trans rfl⟩, hk⟩
      have HKP := Aside0.mk KP
      have hzl : w.heap.size + 1 < wr.heap.size := by have := HBR4.out.size; omega
      clear KP
      go_wp2_with fail
      go_region_held3 (fun W' => (W'.cell? ⟨w.heap.size, 0, none⟩ = some (.slice A ns.length c) ∧ W'.cell? ⟨w'.heap.size, 0, none⟩ = some (.bool x.f0) ∧ W'.cell? ⟨w'.heap.size, 1, none⟩ = some (.slice B1 x.f1.length e1) ∧ W'.cell? ⟨w'.heap.size, 2, none⟩ = some (.slice B2 x.f2.length e2)) ∧ KeepBut wr W' (w.heap.size + 1) none)
        ((refine HKP.out _ ?_; first | exact KeepBut.set_ (KeepBut.set_ (KeepBut.set_ HK7.out _ _) _ _) _ _ | exact HK7.out | exact HK6.out | exact ⟨Nat.le_refl _, fun _ _ _ _ => rfl⟩))
        (first | (go_at_call 49; refine HCF.out.mono ?_; rintro e w6 ⟨v, rfl, hr6, hb6⟩; have HB6 := Aside0.mk (below_step (below_drew (Below.refl wr.heap.size wr)) hb6); have HK6 := Aside0.mk (KeepBut.of_below HB6.out (w.heap.size + 1) none); obtain ⟨D6, c6, e6, l6, C6⟩ := Kd.R_reads hr6; subst e6; have HL6 := Aside0.mk l6; have HC6 := Aside0.mk C6; have HCS := Aside0.mk (PFnTree.spec_l3SameNodes.calls ks D6 c6 (flatX x 0) A c ns _ w6 HC6.out HL6.out (Kd.C_below (Kd.C_below HNS.out HBW6.out) HB6.out) HCAP.out HKS.out); clear hr6 hb6 l6 C6) | (go_at_call 48; refine HCS.out.mono ?_; rintro e w7 ⟨rfl, ⟨m7, rfl⟩⟩; have HK7 := Aside0.mk (show KeepBut wr (w6.drewN m7) (w.heap.size + 1) none from HK6.out); have z0 : w6.frozen? ⟨w.heap.size + 1, 0, none⟩ = false := blk_frozen (blk_below (blk_below HBZ.out HBR.out) HB6.out) 0; have z1 : w6.frozen? ⟨w.heap.size + 1, 1, none⟩ = false := blk_frozen (blk_below (blk_below HBZ.out HBR.out) HB6.out) 1; have z2 : w6.frozen? ⟨w.heap.size + 1, 2, none⟩ = false := blk_frozen (blk_below (blk_below HBZ.out HBR.out) HB6.out) 2; have r0 : w6.cell? ⟨w.heap.size + 1, 0, none⟩ = some (.bool false) := (blkcell (blk_below (blk_below HBZ.out HBR.out) HB6.out) 0).trans rfl; have r1 : w6.cell? ⟨w.heap.size + 1, 1, none⟩ = some (.slice none 0 0) := (blkcell (blk_below (blk_below HBZ.out HBR.out) HB6.out) 1).trans rfl; have r2 : w6.cell? ⟨w.heap.size + 1, 2, none⟩ = some (.slice none 0 0) := (blkcell (blk_below (blk_below HBZ.out HBR.out) HB6.out) 2).trans rfl))
      go_wp2_with fail
      refine bodyPost_ret (v := .tuple #[.agg #[.bool x.f0, .slice B1 x.f1.length e1, .slice B2 x.f2.length e2], .bool (decide (flatX x 0 = ns))]) (by simp [results, Try.results28, go_sem, r0, r1, r2, hlt]) rfl ?_
      obtain ⟨WF, hWF⟩ : ∃ WF : World, WF = (((w6.drewN m7).setCell ⟨w.heap.size + 1, 0, none⟩ (.bool x.f0)).setCell ⟨w.heap.size + 1, 1, none⟩ (.slice B1 x.f1.length e1)).setCell ⟨w.heap.size + 1, 2, none⟩ (.slice B2 x.f2.length e2) := ⟨_, rfl⟩
      rw [← hWF]
      have hbF : Below w.heap.size w WF := by
        rw [hWF]
        exact below_set (below_set (below_set (pw_below_drewN (below_step HBW6.out HB6.out) _) (by omega)) (by omega)) (by omega)
      have hsF : w'.heap.size ≤ WF.heap.size := by
        rw [hWF, World.size_setCell, World.size_setCell, World.size_setCell]
        exact Nat.le_trans HBR4.out.size HB6.out.size
      have hk := HST.out WF hbF hsF (fun k ha hb _ => by
        rw [World.size_alloc, World.size_alloc] at ha
        rw [hWF]
        refine (Below.heap_setCell _ _ _ k (by dsimp only; omega)).trans ((Below.heap_setCell _ _ _ k (by dsimp only; omega)).trans ((Below.heap_setCell _ _ _ k (by dsimp only; omega)).trans ?_))
        exact (HB6.out.block k (Nat.lt_of_lt_of_le hb HBR4.out.size)).trans (HBR4.out.block k hb))
      obtain ⟨E1, g1, E2, g2, hcs, L1, K1, L2, K2⟩ := PFnTree.k53_open hk
      obtain ⟨⟨rfl, rfl⟩, rfl, rfl⟩ : (B1 = E1 ∧ e1 = g1) ∧ B2 = E2 ∧ e2 = g2 := by simpa using hcs
      by_cases hfx : flatX x 0 = ns
      · have hres : res = some x := by rw [← HRES2.out, if_pos hfx]
        rw [hres]
        exact ⟨_, _, _, _, by rw [decide_eq_true hfx], hbF, K1, L1, K2, L2⟩
      · have hres : res = none := by rw [← HRES2.out, if_neg hfx]
        rw [hres]
        have hkl := keys_le x true HD.out
        have hszx := HSZ.out
        have hnx := HNX.out
        exact ⟨x, _, _, _, _, by rw [decide_eq_false hfx], hbF, K1, L1, K2, L2, by omega, by omega⟩

theorem of_any (A : Option Addr) (c : Nat) (ns : List TN) (w : World) (hns : Kd.C kTN w A ns.length ns) (hcap : ns.length ≤ c) :
    Calls Try.prog 28 #[.agg #[.slice A ns.length c]] w (fun e w' => OfPost w e w' (specX ns)) := by
  by_cases hbad : ns.length < 1 ∨ 5000 < ns.length
  · have h : specX ns = none := by simp only [specX, if_pos hbad]
    rw [h]
    exact of_size A c ns w hbad
  · cases hn : nestN ns 21 0 with
    | none =>
      have h : specX ns = none := by simp only [specX, if_neg hbad, hn]
      rw [h]
      exact of_no A c ns w hns (by omega) (by omega) hn
    | some r =>
      obtain ⟨x, nx⟩ := r
      by_cases hx : nx = ns.length
      · subst hx
        by_cases hd : depthX x true < 0
        · have h : specX ns = none := by simp only [specX, if_neg hbad, hn, if_pos (Or.inr hd)]
          rw [h]
          exact of_deep A c ns w x hns (by omega) (by omega) hn hd
        · refine of_good A c ns w x hns hcap (by omega) (by omega) hn (by omega) (specX ns) ?_
          simp only [specX, if_neg hbad, hn]
          rw [if_neg (show ¬ (ns.length ≠ ns.length ∨ depthX x true < 0) by rintro (q | q); exact q rfl; exact hd q)]
      · have h : specX ns = none := by simp only [specX, if_neg hbad, hn, if_pos (Or.inl hx)]
        rw [h]
        exact of_end A c ns w x nx hns (by omega) (by omega) hn hx
end Go.Proofs.Ytnfaiblhjgmjgaa
