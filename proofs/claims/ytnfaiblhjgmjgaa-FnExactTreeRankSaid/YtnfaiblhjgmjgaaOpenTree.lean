/-
  A tree argument opened.
-/
import Derived.Test.YtnfaiblhjgmjgaaOpen
namespace Go.Proofs.Ytnfaiblhjgmjgaa
open Go.RowKit Go.Proofs.YtnfaiblhjgmjgaaW.PrintWords Go.ChangeShapes Go.WideShapes Go.Deep Go.Joins

set_option maxRecDepth 100000 in
theorem opens_lawsTNode : Opens Try.prog 84 PFnTree.k89 (fun x => ∀ s ∈ x.f1, s.size ≤ 9223372036854775807) :=
  opens_TN_of Try.underlying84 (by kernel_rfl) ⟨rfl, rfl⟩ ⟨rfl, rfl⟩ ⟨rfl, rfl⟩ ⟨rfl, rfl⟩

set_option maxRecDepth 100000 in
theorem open_tree {H : Type} (W : World) (base : Nat) (enc : TypeId × Value → H) (v : Value) (d : DataW H) (p : List MemPlace) (hv : Value.okWide Try.prog W .any base 24 v) (h : DataW.Trod enc Try.prog W 0 (fun _ => true) true 24 v d p) :
    ∃ (A : Option Addr) (n c : Nat) (l : List PFnTree.S89), v = .agg #[.slice A n c] ∧ l.length = n ∧ l.length ≤ c ∧ Kd.C PFnTree.k89 W A l.length l ∧ ∀ x ∈ l, ∀ s ∈ x.f1, s.size ≤ 9223372036854775807 := by
  obtain ⟨cs, rfl, hsz⟩ := okWide_struct Try.underlying24 hv
  rw [show Try.prog.cellsOf 24 = 1 by kernel_rfl] at hsz
  obtain ⟨c0, rfl⟩ : ∃ c0, cs = #[c0] := by
    match cs, hsz with
    | ⟨[c0]⟩, _ => exact ⟨c0, rfl⟩
  obtain ⟨fuel, hf⟩ := h
  obtain ⟨y0, m, _, _, g0⟩ := trod_struct1 Try.underlying24 hf
  obtain ⟨l, ⟨A, c, he, hl, hC⟩, hq⟩ := opens_slice (t := 22) Try.underlying22 (by kernel_rfl) opens_lawsTNode H enc W 0 _ true m [c0] y0 g0
  injection he with he
  subst he
  exact ⟨A, l.length, c, l, rfl, rfl, hl, hC, hq⟩
end Go.Proofs.Ytnfaiblhjgmjgaa
