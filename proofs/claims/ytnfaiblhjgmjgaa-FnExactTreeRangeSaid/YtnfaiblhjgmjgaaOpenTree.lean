/-
  Arguments opened: from the row's reading of a value to what its cells say.
-/
import Derived.Test.YtnfaiblhjgmjgaaBase
import Derived.Test.YtnfaiblhjgmjgaaPFnTreex0
import Derived.ProofKit
import Derived.OpenShut
import Derived.Deep.Slices
import Derived.Lib.SmallJoins
namespace Go.Proofs.Ytnfaiblhjgmjgaa
open Go.RowKit Go.Proofs.YtnfaiblhjgmjgaaW.PrintWords Go.ChangeShapes Go.WideShapes Go.Deep Go.Joins

def Opens {α : Type} (P : Program) (t : TypeId) (d : Kd α) (Q : α → Prop) : Prop := ∀ (H : Type) (enc : TypeId × Value → H) (w : World) (base : Nat) (spare : Nat → Bool) (held : Bool) (fuel : Nat) (cs : List Value) (x : DataW H × List MemPlace),
  DataW.trod enc P w base spare held fuel t cs = some x → ∃ a, d.K w a cs ∧ Q a

theorem opens_int {P : Program} {t : TypeId} {k : IntKind} (ht : P.underlying t = some (.int k)) : Opens P t (Kd.int k) (fun n => (Lit.int k n).wf = true) := by
  intro H enc w base spare held fuel cs x h
  obtain ⟨n, rfl, _, hw⟩ := DataW.trod_int ht h
  exact ⟨n, rfl, hw⟩
theorem opens_string {P : Program} {t : TypeId} (ht : P.underlying t = some .string) : Opens P t Kd.string (fun s => s.size ≤ 9223372036854775807) := by
  intro H enc w base spare held fuel cs x h
  obtain ⟨s, rfl, _, hs⟩ := DataW.trod_string ht h
  exact ⟨s, rfl, hs⟩
theorem opens_bool {P : Program} {t : TypeId} (ht : P.underlying t = some .bool) : Opens P t Kd.bool (fun _ => True) := by
  intro H enc w base spare held fuel cs x h
  obtain ⟨b, rfl, _⟩ := DataW.trod_bool ht h
  exact ⟨b, rfl, trivial⟩

theorem list_choose {α : Type} {n : Nat} {p : Nat → α → Prop} (h : ∀ i, i < n → ∃ x, p i x) : ∃ l : List α, l.length = n ∧ ∀ i x, l[i]? = some x → p i x := by
  induction n with
  | zero => exact ⟨[], rfl, fun i x hx => by simp at hx⟩
  | succ n ih =>
    obtain ⟨l, hl, hp⟩ := ih (fun i hi => h i (by omega))
    obtain ⟨y, hy⟩ := h n (by omega)
    refine ⟨l ++ [y], by simp [hl], fun i x hx => ?_⟩
    rcases Nat.lt_or_ge i l.length with hi | hi
    · rw [List.getElem?_append_left hi] at hx
      exact hp i x hx
    · have : i = l.length := by
        have := (List.getElem?_eq_some_iff.1 hx).1
        simp at this
        omega
      subst this
      simp at hx
      subst hx
      rw [hl]
      exact hy

theorem opens_slice {α : Type} {P : Program} {t e : TypeId} {d : Kd α} {Q : α → Prop} (ht : P.underlying t = some (.slice e)) (hc : P.cellsOf e = d.sz) (he : Opens P e d Q) : Opens P t (Kd.slice e d) (fun l => ∀ x ∈ l, Q x) := by
  intro H enc w base spare held fuel cs x h
  rcases open_slice ht h with ⟨rfl, _⟩ | ⟨a, len, cap, m, n, D, Pl, rfl, hb, hl, hm, hmm, _, hx⟩
  · exact ⟨[], ⟨none, 0, rfl, Nat.le_refl _, rfl, by simp, fun h => by simp at h⟩, by simp⟩
  · have hle : len ≤ m := by rw [hmm]; split <;> omega
    obtain ⟨l, hll, hlp⟩ := list_choose (n := len) (p := fun i (y : α) => Q y ∧ ∃ c, c.length = d.sz ∧ d.K w y c ∧ ∀ j u, c[j]? = some u → w.cell? (a.add (i * d.sz + j)) = some u) (by
      intro i hi
      obtain ⟨cs', h1, h2⟩ := hx i (by omega)
      obtain ⟨y, hy, hq⟩ := he H enc w base spare held n cs' _ h2
      obtain ⟨_, hlen, hcell⟩ := World.cells?_some h1
      rw [hc] at hlen hcell
      refine ⟨y, hq, cs', hlen, hy, fun j u hj => ?_⟩
      have hj2 : j < d.sz := by have := (List.getElem?_eq_some_iff.1 hj).1; omega
      have := hcell j hj2
      rw [hj] at this
      rw [← this]
      congr 1
      unfold Addr.add
      by_cases q1 : i * d.sz = 0 <;> by_cases q2 : j = 0 <;> simp [q1, q2, Nat.add_assoc] <;> omega)
    refine ⟨l, ⟨some a, cap, by rw [hll], by omega, rfl, by rw [hll]; unfold maxLen at hm; omega, fun _ => ⟨a, rfl, fun j p hj => ?_⟩⟩, fun x hx => ?_⟩
    · obtain ⟨_, c, h1, h2, h3⟩ := hlp j p hj
      exact ⟨c, h1, h2, h3⟩
    · obtain ⟨j, hj⟩ := List.getElem?_of_mem hx
      exact (hlp j x hj).1

theorem opens_TN_of {t : TypeId} {f0 f1 f2 f3 : Field} (ht : Try.prog.underlying t = some (.struct #[f0, f1, f2, f3])) (hc : Try.prog.cellsOf t = 4)
    (h0 : f0.offset = 0 ∧ f0.type = 4) (h1 : f1.offset = 1 ∧ f1.type = 35) (h2 : f2.offset = 2 ∧ f2.type = 82) (h3 : f3.offset = 3 ∧ f3.type = 2) : Opens Try.prog t PFnTree.k89 (fun x => ∀ s ∈ x.f1, s.size ≤ 9223372036854775807) := by
  intro H enc w base spare held fuel cs x h
  obtain ⟨y0, y1, y2, y3, n, _, hl, g0, g1, g2, g3⟩ := trod_struct4 ht h
  rw [hc] at hl
  rw [h0.1, h0.2] at g0
  rw [h1.1, h1.2] at g1
  rw [h2.1, h2.2] at g2
  rw [h3.1, h3.2] at g3
  rw [show Try.prog.cellsOf 4 = 1 by kernel_rfl] at g0
  rw [show Try.prog.cellsOf 35 = 1 by kernel_rfl] at g1
  rw [show Try.prog.cellsOf 82 = 1 by kernel_rfl] at g2
  rw [show Try.prog.cellsOf 2 = 1 by kernel_rfl] at g3
  match cs, hl with
  | [c0, c1, c2, c3], _ =>
    obtain ⟨b0, k0, _⟩ := opens_bool Try.underlying4 H enc w base spare held n _ _ g0
    obtain ⟨b1, k1, q1⟩ := opens_slice Try.underlying35 (by kernel_rfl) (opens_string Try.underlying9) H enc w base spare held n _ _ g1
    obtain ⟨b2, k2, _⟩ := opens_slice Try.underlying82 (by kernel_rfl) (opens_int Try.underlying2) H enc w base spare held n _ _ g2
    obtain ⟨b3, k3, _⟩ := opens_int Try.underlying2 H enc w base spare held n _ _ g3
    exact ⟨⟨b0, b1, b2, b3⟩, ⟨[c0], [c1, c2, c3], rfl, k0, [c1], [c2, c3], rfl, k1, [c2], [c3], rfl, k2, k3⟩, q1⟩
end Go.Proofs.Ytnfaiblhjgmjgaa
/-
  A tree argument opened.
-/
namespace Go.Proofs.Ytnfaiblhjgmjgaa
open Go.RowKit Go.Proofs.YtnfaiblhjgmjgaaW.PrintWords Go.ChangeShapes Go.WideShapes Go.Deep Go.Joins

set_option maxRecDepth 100000 in
theorem opens_lawsTNode : Opens Try.prog 84 PFnTree.k89 (fun x => ∀ s ∈ x.f1, s.size ≤ 9223372036854775807) :=
  opens_TN_of Try.underlying84 (by kernel_rfl) ⟨rfl, rfl⟩ ⟨rfl, rfl⟩ ⟨rfl, rfl⟩ ⟨rfl, rfl⟩

set_option maxRecDepth 100000 in
theorem open_tree {H : Type} (W : World) (base : Nat) (enc : TypeId × Value → H) (v : Value) (d : DataW H) (p : List MemPlace) (hv : Value.okWide Try.prog W .any base 24 v) (h : DataW.Trod enc Try.prog W 0 (fun _ => true) true 24 v d p) :
    ∃ (A : Option Addr) (n c : Nat) (l : List PFnTree.S89), v = .agg #[.slice A n c] ∧ l.length = n ∧ l.length ≤ c ∧ Kd.C PFnTree.k89 W A l.length l ∧ ∀ x ∈ l, ∀ s ∈ x.f1, s.size ≤ 9223372036854775807 := by
  obtain ⟨cs, rfl, hsz⟩ := okWide_struct Try.underlying24 hv
  rw [show Try.prog.cellsOf 24 = 1 by kernel_rfl] at hsz
  obtain ⟨c0, rfl⟩ : ∃ c0, cs = #[c0] := by
    match cs, hsz with
    | ⟨[c0]⟩, _ => exact ⟨c0, rfl⟩
  obtain ⟨fuel, hf⟩ := h
  obtain ⟨y0, m, _, _, g0⟩ := trod_struct1 Try.underlying24 hf
  obtain ⟨l, ⟨A, c, he, hl, hC⟩, hq⟩ := opens_slice (t := 22) Try.underlying22 (by kernel_rfl) opens_lawsTNode H enc W 0 _ true m [c0] y0 g0
  injection he with he
  subst he
  exact ⟨A, l.length, c, l, rfl, rfl, hl, hC, hq⟩
end Go.Proofs.Ytnfaiblhjgmjgaa
