/-
  The program's root of a tree.
-/
import Derived.Test.YtnfaiblhjgmjgaaRead2
namespace Go.Proofs.Ytnfaiblhjgmjgaa
open Go.RowKit Go.Proofs.YtnfaiblhjgmjgaaW.PrintWords

def ordOk (keys : List ByteArray) : Bool := (runK ordStep (⟨#[]⟩, true) keys).2
def rootP (ns : List TN) : Option T :=
  if 5000 < ns.length then none else
  match rdN ns 31 0 with
  | none => none
  | some (t, _, nx) => if nx ≠ ns.length then none else if ordOk t.keys = true then some t else none

def RootPost (w : World) (e : Ending) (w' : World) : Option T → Prop
  | none => e = .returned .nilIface ∧ Below w.heap.size w w'
  | some t => ∃ v, e = .returned v ∧ Below w.heap.size w w' ∧ NodeAt w' t v

theorem rdin_start (w : World) (A : Option Addr) (c : Nat) (ns : List TN) (h : Kd.C kTN w A ns.length ns) : RdIn w ((w.alloc (.cells #[.slice A ns.length c] 29)).alloc (.cells #[.slice A ns.length c, .int .i64 0] 92)) A c ns (w.heap.size + 1) 0 := by
  refine ⟨below_alloc (below_alloc (Below.refl _ _) _) _, by omega, ?_, h⟩
  have := blk_new (w.alloc (.cells #[.slice A ns.length c] 29)) (.cells #[.slice A ns.length c, .int .i64 0] 92)
  rw [World.size_alloc] at this
  exact this
theorem node0 (ns : List TN) (hn : ns.length ≤ 5000) (w0 w : World) (A : Option Addr) (c : Nat) (g : Nat) (h : RdIn w0 w A c ns g 0) :
    Calls Try.prog 51 #[.pointer (some ⟨g, 0, none⟩), .int .i64 0] w (fun e w' => RdPost w0 w A c ns g e w' (rdN ns 31 0)) := by
  have := node_any ns hn 31 (by omega) w0 w A c g 0 h (by omega)
  rw [show ((31 - 31 : Nat) : Int) = 0 from rfl] at this
  exact this

set_option maxHeartbeats 1000000 in
set_option maxRecDepth 100000 in
theorem root_any (A : Option Addr) (c : Nat) (ns : List TN) (w : World) (hns : Kd.C kTN w A ns.length ns) :
    Calls Try.prog 30 #[.agg #[.slice A ns.length c]] w (fun e w' => RootPost w e w' (rootP ns)) := by
  have hm := hns.2.1
  have HNS := Aside0.mk hns
  clear hns
  by_cases hbig : 5000 < ns.length
  · have h : rootP ns = none := by simp [rootP, hbig]
    rw [h]
    clear h
    have hd1 : decide ((5000 : Int) < (ns.length : Int)) = true := decide_eq_true (by omega)
    have hd2 : decide (5000 < ns.length) = true := decide_eq_true (by omega)
    clear hbig
    go_enter Try.func30, Try.ntmps30
    go_wp2
    go_ret
    exact ⟨rfl, below_alloc (Below.refl _ _) _⟩
  · have hd1 : decide ((5000 : Int) < (ns.length : Int)) = false := decide_eq_false (by omega)
    have hd2 : decide (5000 < ns.length) = false := decide_eq_false (by omega)
    have hroot : rootP ns = match rdN ns 31 0 with
      | none => none
      | some (t, _, nx) => if nx ≠ ns.length then none else if ordOk t.keys = true then some t else none := by simp only [rootP, if_neg hbig]
    have NA := Aside0.mk (node0 ns (by omega) w _ A c _ (rdin_start w A c ns HNS.out))
    cases hr : rdN ns 31 0 with
    | none =>
      have h : rootP ns = none := by rw [hroot, hr]
      rw [h]
      have na := NA.out
      rw [hr] at na
      have HC : Aside0 (Calls Try.prog 51 #[.pointer (some ⟨w.heap.size + 1, 0, none⟩), .int .i64 0] _ (fun e w' => e = .returned (.tuple #[.nilIface, .int .i64 0]) ∧ ((w.alloc (.cells #[.slice A ns.length c] 29)).alloc (.cells #[.slice A ns.length c, .int .i64 0] 92)).grownBy w' (some (w.heap.size + 1)))) := ⟨na⟩
      clear h hroot hbig hr na NA
      go_enter Try.func30, Try.ntmps30
      go_wp2_with (go_at_call 51; refine HC.out.mono ?_; rintro e w' ⟨rfl, hg2⟩; have HG2 := Aside0.mk hg2; clear hg2)
      go_ret
      exact ⟨rfl, (below_alloc (below_alloc (Below.refl _ _) _) _).grown HG2.out (by rw [World.size_alloc, World.size_alloc]; omega) (fun k e => by injection e with e; omega)⟩
    | some r =>
      obtain ⟨t, lv, nx⟩ := r
      have na := NA.out
      rw [hr] at na
      have HC : Aside0 (Calls Try.prog 51 #[.pointer (some ⟨w.heap.size + 1, 0, none⟩), .int .i64 0] _ (fun e w' => ∃ v, e = .returned (.tuple #[v, .int .i64 lv]) ∧ ((w.alloc (.cells #[.slice A ns.length c] 29)).alloc (.cells #[.slice A ns.length c, .int .i64 0] 92)).grownBy w' (some (w.heap.size + 1)) ∧ w'.heap[w.heap.size + 1]? = some (.cells #[.slice A ns.length c, .int .i64 nx] 92 (0, 0)) ∧ Stay w ((w.alloc (.cells #[.slice A ns.length c] 29)).alloc (.cells #[.slice A ns.length c, .int .i64 0] 92)).heap.size none w' (fun W => NodeAt W t v))) := ⟨na⟩
      rw [hr] at hroot
      have HROOT := Aside0.mk hroot
      clear hroot hbig hr na NA
      go_enter Try.func30, Try.ntmps30
      go_wp2_with fail
      refine HC.out.mono ?_
      rintro e w' ⟨v2, rfl, hg2, hb2, hs2⟩
      have hbw : Below w.heap.size w w' := (below_alloc (below_alloc (Below.refl _ _) _) _).grown hg2 (by rw [World.size_alloc, World.size_alloc]; omega) (fun k e => by injection e with e; omega)
      have hnode := hs2.now hbw
      obtain ⟨kk, b2, hv2⟩ := hnode.iface
      subst hv2
      have hbox : w'.heap[w.heap.size]? = some (.cells #[.slice A ns.length c] 29 (0, 0)) := blk_grown (blk_alloc (blk_new w _) _) hg2 (fun e => by injection e with e; omega)
      have n0 : w'.cell? ⟨w.heap.size, 0, none⟩ = some (.slice A ns.length c) := (blkcell hbox 0).trans rfl
      have n1 : w'.cell? ⟨w.heap.size + 1, 1, none⟩ = some (.int .i64 nx) := (blkcell hb2 1).trans rfl
      have HBW := Aside0.mk hbw
      have HND := Aside0.mk hnode
      clear hg2 hb2 hs2 hbw hnode hbox
      by_cases hnx : nx = ns.length
      · have e1 : ((nx : Int) == (ns.length : Int)) = true := beq_iff_eq.2 (by omega)
        have e2 : ((nx : Int) != (ns.length : Int)) = false := by rw [bne_eq_false_iff_eq]; omega
        have e3 : (nx == ns.length) = true := beq_iff_eq.2 hnx
        have e4 : (nx != ns.length) = false := by rw [bne_eq_false_iff_eq]; omega
        have hroot2 : rootP ns = if ordOk t.keys = true then some t else none := by rw [HROOT.out]; simp only [ne_eq, hnx, not_true_eq_false, if_false]
        have HROOT2 := Aside0.mk hroot2
        clear hnx hroot2
        have hJ : OrdJ w' w'.heap.size (w'.heap.size + 1) (⟨#[]⟩, true) ((w'.alloc (.cells #[.string ⟨#[]⟩] 9)).alloc (.cells #[.bool true] 4)) := by
          refine ⟨below_alloc (below_alloc (Below.refl _ _) _) _, blk_alloc (blk_new w' _) _, ?_⟩
          have := blk_new (w'.alloc (.cells #[.string ⟨#[]⟩] 9)) (.cells #[.bool true] 4)
          rw [World.size_alloc] at this
          exact this
        have hw := walk_any _ _ w' _ ordStep (root1_yield w' w'.heap.size (w'.heap.size + 1) (by omega) (by omega) (by omega)) t (.iface kk (.pointer (some ⟨b2, 0, none⟩))) (⟨#[]⟩, true) _ HND.out hJ
        change Calls _ _ _ _ (fun e w'_1 => e = .returned (.bool (ordOk t.keys)) ∧ _) at hw
        cases hok : ordOk t.keys with
        | true =>
          rw [hok] at hw
          have HW := Aside0.mk hw
          have HOK := Aside0.mk hok
          clear hw hJ hok
          go_wp2_with (go_at_call 34; refine HW.out.mono ?_; rintro e w5 ⟨rfl, hj⟩; have HJ := Aside0.mk hj; clear hj)
          go_ret
          rw [HROOT2.out, HOK.out]
          exact ⟨_, rfl, below_step HBW.out HJ.out.1, NodeAt.below HJ.out.1 _ _ HND.out⟩
        | false =>
          rw [hok] at hw
          have HW := Aside0.mk hw
          have HOK := Aside0.mk hok
          clear hw hJ hok
          go_wp2_with (go_at_call 34; refine HW.out.mono ?_; rintro e w5 ⟨rfl, hj⟩; have HJ := Aside0.mk hj; clear hj)
          go_ret
          rw [HROOT2.out, HOK.out]
          exact ⟨rfl, below_step HBW.out HJ.out.1⟩
      · have e1 : ((nx : Int) == (ns.length : Int)) = false := beq_eq_false_iff_ne.2 (by omega)
        have e2 : ((nx : Int) != (ns.length : Int)) = true := by rw [bne_iff_ne]; omega
        have e3 : (nx == ns.length) = false := beq_eq_false_iff_ne.2 hnx
        have e4 : (nx != ns.length) = true := bne_iff_ne.2 hnx
        have hroot2 : rootP ns = none := by rw [HROOT.out]; simp only [ne_eq, hnx, not_false_eq_true, if_true]
        have HROOT2 := Aside0.mk hroot2
        clear hnx hroot2
        go_wp2
        go_ret
        rw [HROOT2.out]
        exact ⟨rfl, HBW.out⟩

end Go.Proofs.Ytnfaiblhjgmjgaa
