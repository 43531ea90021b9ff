/-
  TreeRank of the program.
-/
import Derived.Test.YtnfaiblhjgmjgaaRank
namespace Go.Proofs.Ytnfaiblhjgmjgaa
open Go.RowKit Go.Proofs.YtnfaiblhjgmjgaaW.PrintWords

def rankP (ns : List TN) (key : ByteArray) : Nat := match rootP ns with
  | none => 0
  | some t => under t.keys key

set_option maxHeartbeats 1000000 in
set_option maxRecDepth 100000 in
theorem treeRank_any (A : Option Addr) (c : Nat) (ns : List TN) (key : ByteArray) (w : World) (hns : Kd.C kTN w A ns.length ns) :
    Calls Try.prog 13 #[.agg #[.slice A ns.length c], .string key] w (fun e w' => e = .returned (.int .i64 (rankP ns key)) ∧ Below w.heap.size w w') := by
  have HR := Aside0.mk (root_any A c ns (w.alloc (.cells #[.slice A ns.length c] 29)) (Kd.C_below hns (below_alloc (Below.refl _ _) _)))
  unfold rankP
  cases h : rootP ns with
  | none =>
    rw [h] at HR
    have HC : Aside0 (Calls Try.prog 30 #[.agg #[.slice A ns.length c]] (w.alloc (.cells #[.slice A ns.length c] 29)) (fun e w' => e = .returned .nilIface ∧ Below (w.alloc (.cells #[.slice A ns.length c] 29)).heap.size (w.alloc (.cells #[.slice A ns.length c] 29)) w')) := HR
    clear HR h hns
    go_enter Try.func13, Try.ntmps13
    go_wp2_with (first | (go_at_call 30; refine HC.out.mono ?_; rintro e w5 ⟨rfl, hj⟩; have HJ := Aside0.mk hj; clear hj) | (go_at_call 33; refine (rank_nil _ _).mono ?_; rintro e w6 ⟨rfl, rfl⟩))
    go_ret
    exact ⟨rfl, below_step (below_alloc (Below.refl _ _) _) HJ.out⟩
  | some t =>
    rw [h] at HR
    have hg := (root_good ns t h).1
    have HC : Aside0 (Calls Try.prog 30 #[.agg #[.slice A ns.length c]] (w.alloc (.cells #[.slice A ns.length c] 29)) (fun e w' => ∃ v, e = .returned v ∧ Below (w.alloc (.cells #[.slice A ns.length c] 29)).heap.size (w.alloc (.cells #[.slice A ns.length c] 29)) w' ∧ Calls Try.prog 33 #[v, .string key] w' (fun e w2 => e = .returned (.int .i64 (under t.keys key)) ∧ Below w'.heap.size w' w2))) := by
      refine ⟨HR.out.mono ?_⟩
      rintro e w' ⟨v, he, hb, hn⟩
      exact ⟨v, he, hb, rank_any t v key w' hn hg.good hg.srt hg.few⟩
    clear HR h hns hg
    go_enter Try.func13, Try.ntmps13
    go_wp2_with (first | (go_at_call 30; refine HC.out.mono ?_; rintro e w5 ⟨v, rfl, hj, hc2⟩; have HJ := Aside0.mk hj; have HC2 := Aside0.mk hc2; clear hj hc2) | (go_at_call 33; refine HC2.out.mono ?_; rintro e w6 ⟨rfl, hj⟩; have HJ2 := Aside0.mk hj; clear hj))
    go_ret
    exact ⟨rfl, below_step (below_step (below_alloc (Below.refl _ _) _) HJ.out) HJ2.out⟩
end Go.Proofs.Ytnfaiblhjgmjgaa
