/-
  The reference's ValidTree.
-/
import Derived.Test.YtnfaiblhjgmjgaaOf
namespace Go.Proofs.Ytnfaiblhjgmjgaa
open Go.RowKit Go.Proofs.YtnfaiblhjgmjgaaW.PrintWords

set_option maxHeartbeats 1000000 in
set_option maxRecDepth 100000 in
theorem specValid_any (A : Option Addr) (c : Nat) (ns : List TN) (w : World) (hns : Kd.C kTN w A ns.length ns) (hcap : ns.length ≤ c) :
    Calls Try.prog 8 #[.agg #[.slice A ns.length c]] w (fun e w' => e = .returned (.bool (specX ns).isSome) ∧ Below w.heap.size w w') := by
  have HC := Aside0.mk (of_any A c ns (w.alloc (.cells #[.slice A ns.length c] 29)) (Kd.C_below hns (below_alloc (Below.refl _ _) _)) hcap)
  obtain ⟨res, hres⟩ : ∃ res, specX ns = res := ⟨_, rfl⟩
  rw [hres] at HC ⊢
  clear hns hres
  cases res with
  | none =>
    have HC : Aside0 (Calls Try.prog 28 #[.agg #[.slice A ns.length c]] (w.alloc (.cells #[.slice A ns.length c] 29)) (fun e w' => OfNo (w.alloc (.cells #[.slice A ns.length c] 29)) e w')) := HC
    go_enter Try.func8, Try.ntmps8
    go_wp2_with (go_at_call 28; refine HC.out.mono ?_; rintro e w5 ⟨l, A1, n1, c1, A2, n2, c2, rfl, hj⟩; have HJ := Aside0.mk hj; clear hj)
    go_ret
    exact ⟨rfl, below_alloc (below_step (below_alloc (Below.refl _ _) _) HJ.out) _⟩
  | some x =>
    have HC : Aside0 (Calls Try.prog 28 #[.agg #[.slice A ns.length c]] (w.alloc (.cells #[.slice A ns.length c] 29)) (fun e w' => OfYes (w.alloc (.cells #[.slice A ns.length c] 29)) x e w')) := HC
    go_enter Try.func8, Try.ntmps8
    go_wp2_with (go_at_call 28; refine HC.out.mono ?_; rintro e w5 ⟨A1, c1, A2, c2, rfl, hj, _, _, _, _⟩; have HJ := Aside0.mk hj; clear hj)
    go_ret
    exact ⟨rfl, below_alloc (below_step (below_alloc (Below.refl _ _) _) HJ.out) _⟩
end Go.Proofs.Ytnfaiblhjgmjgaa
