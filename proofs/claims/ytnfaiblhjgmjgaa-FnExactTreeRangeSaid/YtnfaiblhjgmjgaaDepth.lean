/-
  A nested tree of good depth: its children are of good depth, and hold keys.
-/
import Derived.Test.YtnfaiblhjgmjgaaFlat
namespace Go.Proofs.Ytnfaiblhjgmjgaa
open Go.RowKit Go.Proofs.YtnfaiblhjgmjgaaW.PrintWords

theorem depthAll_mem : ∀ (xs : List LX) (d : Int), depthAll d xs = true → ∀ y ∈ xs, depthX y false = d
  | [], _, _, y, h => by simp at h
  | x :: xs, d, h, y, hy => by
    simp only [depthAll, Bool.and_eq_true, decide_eq_true_eq] at h
    rcases List.mem_cons.1 hy with rfl | hy
    · exact h.1
    · exact depthAll_mem xs d h.2 y hy
theorem depthXL_kids (xs : List LX) (h : 0 ≤ depthXL xs) : ∃ d, 0 ≤ d ∧ depthXL xs = d + 1 ∧ xs ≠ [] ∧ ∀ y ∈ xs, depthX y false = d := by
  cases xs with
  | nil => simp [depthXL] at h
  | cons x xs =>
    simp only [depthXL] at h ⊢
    by_cases h1 : depthAll (depthX x false) xs = true
    · rw [if_pos h1] at h ⊢
      by_cases h2 : depthX x false < 0
      · rw [if_pos h2] at h; omega
      · rw [if_neg h2] at h ⊢
        refine ⟨depthX x false, by omega, rfl, by simp, fun y hy => ?_⟩
        rcases List.mem_cons.1 hy with rfl | hy
        · rfl
        · exact depthAll_mem xs _ h1 y hy
    · rw [if_neg h1] at h
      omega
theorem depth_kids (x : LX) (r : Bool) (h : 0 ≤ depthX x r) (hl : x.f0 = false) : ∀ y ∈ x.f2, 0 ≤ depthX y false := by
  rw [depthX_mk] at h
  rw [hl] at h
  simp only [Bool.false_eq_true, if_false] at h
  split at h
  · omega
  · obtain ⟨d, hd, _, _, hy⟩ := depthXL_kids _ h
    intro y hm
    rw [hy y hm]
    exact hd
theorem depth_ne : ∀ x : LX, 0 ≤ depthX x false → keysX x ≠ [] := by
  refine LX.ind (fun x ih => ?_)
  intro h
  have hk := depth_kids x false h
  rw [depthX_mk] at h
  rw [keysX_mk]
  cases hl : x.f0 with
  | true =>
    rw [hl] at h
    simp only [if_true] at h ⊢
    intro e
    rw [e] at h
    simp at h
  | false =>
    rw [hl] at h
    simp only [Bool.false_eq_true, if_false] at h ⊢
    split at h
    · omega
    · obtain ⟨d, hd, _, hne, hy⟩ := depthXL_kids _ h
      cases hf : x.f2 with
      | nil => exact absurd hf hne
      | cons y ys =>
        have hm : y ∈ x.f2 := by rw [hf]; exact List.mem_cons_self
        have := ih y hm (hk hl y hm)
        intro e
        simp only [keysXL] at e
        exact this (List.append_eq_nil_iff.1 e).1

theorem kid_bounds (x y : LX) (hl : x.f0 = false) (hm : y ∈ x.f2) : (keysX y).length ≤ (keysX x).length ∧ sizeX y ≤ sizeX x := by
  obtain ⟨pa, pb, ee⟩ := List.append_of_mem hm
  rw [keysX_mk x, sizeX_mk x, hl, ee, keysXL_append, sizeXL_append]
  simp only [Bool.false_eq_true, if_false, keysXL, sizeXL, List.length_append]
  exact ⟨by omega, by omega⟩

theorem flat_any : ∀ x : LX, ∀ r, 0 ≤ depthX x r → (keysX x).length ≤ 1048576 → sizeX x ≤ 1048576 → FlatOk x := by
  refine LX.ind (fun x ih => ?_)
  intro r hd hlen hsz
  refine flat_step x (fun hl y hm => ?_) (fun hl y hm => ?_) hlen hsz
  · have hb := kid_bounds x y hl hm
    exact ih y hm false (depth_kids x r hd hl y hm) (by omega) (by omega)
  · exact depth_ne y (depth_kids x r hd hl y hm)
end Go.Proofs.Ytnfaiblhjgmjgaa
