/-
  The laws' marks: markText, markStringS, heldStringS as numbers; markTree writes its own blocks alone.
-/
import Derived.Test.YtnfaiblhjgmjgaaToS
import Derived.Test.YtnfaiblhjgmjgaaCutM
import Derived.Test.YtnfaiblhjgmjgaaSpecEq
import Derived.IntWalk
namespace Go.Proofs.Ytnfaiblhjgmjgaa
open Go.RowKit Go.Proofs.YtnfaiblhjgmjgaaW.PrintWords

theorem markText_l0 : ∀ (f n : Nat) (acc : ByteArray), n < 10 ^ f → n < 4611686018427387904 → f ≤ 100 → acc.size + f ≤ 1000000 → ∃ r, ∀ k, f < k → PFnTree.laws_markText.l0 k (n : Int) acc = some r
  | 0, n, acc, h, hn, hf, ha => by
    obtain rfl : n = 0 := by omega
    refine ⟨(⟨#[109]⟩ : ByteArray) ++ acc, fun k hk => ?_⟩
    obtain ⟨k, rfl⟩ : ∃ m, k = m + 1 := ⟨k - 1, by omega⟩
    simp only [PFnTree.laws_markText.l0]
    rw [if_neg (by omega), if_pos (by omega)]
  | f + 1, n, acc, h, hn, hf, ha => by
    by_cases h0 : n = 0
    · subst h0
      refine ⟨(⟨#[109]⟩ : ByteArray) ++ acc, fun k hk => ?_⟩
      obtain ⟨k, rfl⟩ : ∃ m, k = m + 1 := ⟨k - 1, by omega⟩
      simp only [PFnTree.laws_markText.l0]
      rw [if_neg (by omega), if_pos (by omega)]
    · have hp : (10 : Nat) ^ (f + 1) = 10 ^ f * 10 := Nat.pow_succ ..
      have hlim : (10 : Nat) ^ (f + 1) ≤ 10 ^ 101 := Nat.pow_le_pow_right (by omega) (by omega)
      obtain ⟨y, hy⟩ : ∃ y : List Int, y = [wrap64 (48 + Int.tmod (n : Int) 10) % 256] := ⟨_, rfl⟩
      have hys : (strOfNums y ++ acc).size = 1 + acc.size := by
        rw [ByteArray.size_append, hy]
        rfl
      obtain ⟨r, hr⟩ := markText_l0 f (n / 10) (strOfNums y ++ acc) (by omega) (by omega) (by omega) (by omega)
      have hd : wrap64 (Int.tdiv (n : Int) 10) = ((n / 10 : Nat) : Int) := by
        have e : Int.tdiv (n : Int) 10 = ((n / 10 : Nat) : Int) := by
          rw [Int.tdiv_eq_ediv_of_nonneg (by omega)]
          omega
        rw [e]
        exact IntWalk.wrap64_in _ (by omega)
      refine ⟨r, fun k hk => ?_⟩
      obtain ⟨k, rfl⟩ : ∃ m, k = m + 1 := ⟨k - 1, by omega⟩
      simp only [PFnTree.laws_markText.l0]
      rw [if_pos (by omega)]
      simp only [Option.bind_some]
      rw [← hy, hd, if_pos (by rw [← ByteArray.size_append, hys]; omega)]
      exact hr k (by omega)
/-- The mark of a number. -/
def markT (n : Nat) : ByteArray := (PFnTree.laws_markText.f 100 (n : Int)).getD ⟨#[]⟩
theorem markT_f (n : Nat) (h : n < 4611686018427387904) : ∀ k, 100 ≤ k → PFnTree.laws_markText.f k (n : Int) = some (markT n) := by
  unfold markT PFnTree.laws_markText.f
  by_cases h0 : (n : Int) ≤ 0
  · intro k _
    simp only [if_pos h0]
    rfl
  · obtain ⟨r, hr⟩ := markText_l0 20 n ⟨#[]⟩ (by omega) h (by omega) (by decide)
    intro k hk
    simp only [if_neg h0]
    rw [hr k (by omega), hr 100 (by omega)]
    rfl
def marks (k0 : Nat) : Nat → List ByteArray
  | 0 => []
  | n + 1 => markT k0 :: marks (k0 + 1) n
theorem marks_len : ∀ n k0, (marks k0 n).length = n
  | 0, _ => rfl
  | n + 1, k0 => by simp [marks, marks_len n]
theorem w_suc (a : Nat) (h : a < 4611686018427387904) : wrap64 ((a : Int) + 1) = ((a + 1 : Nat) : Int) := by rw [IntWalk.wrap64_in _ (by omega)]; rfl
theorem markS_l0 : ∀ (n : Nat) (pre l : List ByteArray) (k0 : Nat), l.length = n → k0 + n < 4000000000000000000 → pre.length + n < 4000000000000000000 → ∀ k, 101 + n ≤ k →
    PFnTree.laws_markStringS.l0 k (pre ++ l) (k0 : Int) (pre.length : Int) = some (((k0 + n : Nat) : Int), pre ++ marks k0 n)
  | 0, pre, l, k0, hl, hk0, hp, k, hk => by
    obtain rfl : l = [] := List.eq_nil_of_length_eq_zero hl
    obtain ⟨k, rfl⟩ : ∃ m, k = m + 1 := ⟨k - 1, by omega⟩
    simp only [PFnTree.laws_markStringS.l0, List.append_nil]
    rw [if_neg (by omega)]
    simp [marks]
  | n + 1, pre, [], k0, hl, hk0, hp, k, hk => by simp at hl
  | n + 1, pre, x :: l, k0, hl, hk0, hp, k, hk => by
    obtain ⟨k, rfl⟩ : ∃ m, k = m + 1 := ⟨k - 1, by omega⟩
    have hl2 : l.length = n := by simpa using hl
    simp only [PFnTree.laws_markStringS.l0]
    rw [if_pos (by simp; omega), markT_f k0 (by omega) k (by omega)]
    simp only [Option.bind_some]
    rw [if_pos (by omega), w_suc _ (by omega), w_suc _ (by omega), Int.toNat_natCast, List.set_append_right _ _ (Nat.le_refl _), Nat.sub_self, List.set_cons_zero]
    have := markS_l0 n (pre ++ [markT k0]) l (k0 + 1) hl2 (by omega) (by simp; omega) k (by omega)
    rw [List.append_assoc, List.singleton_append, List.length_append, List.length_singleton] at this
    rw [this]
    simp [marks]
    omega
theorem markS_f (l : List ByteArray) (k0 : Nat) (h1 : k0 + l.length < 4000000000000000000) : PFnTree.laws_markStringS.f (l.length + 101) l (k0 : Int) = some (((k0 + l.length : Nat) : Int), marks k0 l.length) := by
  have := markS_l0 l.length [] l k0 rfl h1 (by simp; omega) (l.length + 101) (by omega)
  simpa [PFnTree.laws_markStringS.f] using this
theorem markI_l0 : ∀ (n : Nat) (pre l : List Int) (k0 : Nat), l.length = n → k0 + n < 4000000000000000000 → pre.length + n < 4000000000000000000 → ∀ k, 1 + n ≤ k →
    ∃ r, PFnTree.laws_markInt64S.l0 k (pre ++ l) (k0 : Int) (pre.length : Int) = some (((k0 + n : Nat) : Int), r)
  | 0, pre, l, k0, hl, hk0, hp, k, hk => by
    obtain rfl : l = [] := List.eq_nil_of_length_eq_zero hl
    obtain ⟨k, rfl⟩ : ∃ m, k = m + 1 := ⟨k - 1, by omega⟩
    simp only [PFnTree.laws_markInt64S.l0, List.append_nil]
    rw [if_neg (by omega)]
    exact ⟨_, rfl⟩
  | n + 1, pre, [], k0, hl, hk0, hp, k, hk => by simp at hl
  | n + 1, pre, x :: l, k0, hl, hk0, hp, k, hk => by
    obtain ⟨k, rfl⟩ : ∃ m, k = m + 1 := ⟨k - 1, by omega⟩
    have hl2 : l.length = n := by simpa using hl
    simp only [PFnTree.laws_markInt64S.l0]
    rw [if_pos (by simp; omega), if_pos (by omega), w_suc _ (by omega), w_suc _ (by omega), Int.toNat_natCast, List.set_append_right _ _ (Nat.le_refl _), Nat.sub_self, List.set_cons_zero]
    obtain ⟨r, hr⟩ := markI_l0 n (pre ++ [(k0 : Int)]) l (k0 + 1) hl2 (by omega) (by simp; omega) k (by omega)
    rw [List.append_assoc, List.singleton_append, List.length_append, List.length_singleton] at hr
    refine ⟨r, ?_⟩
    rw [hr, show k0 + 1 + n = k0 + (n + 1) by omega]
theorem markI_f (l : List Int) (k0 : Nat) (h1 : k0 + l.length < 4000000000000000000) : ∃ r, PFnTree.laws_markInt64S.f (l.length + 1) l (k0 : Int) = some (((k0 + l.length : Nat) : Int), r) := by
  have := markI_l0 l.length [] l k0 rfl h1 (by simp; omega) (l.length + 1) (by omega)
  simpa [PFnTree.laws_markInt64S.f] using this
theorem heldS_l0 : ∀ (n : Nat) (pre : List ByteArray) (k0 : Nat), k0 + n < 4000000000000000000 → pre.length + n < 4000000000000000000 → ∀ k, 101 + n ≤ k →
    PFnTree.laws_heldStringS.l0 k (pre ++ marks k0 n) (k0 : Int) (pre.length : Int) = some ((k0 + n : Nat) : Int)
  | 0, pre, k0, hk0, hp, k, hk => by
    obtain ⟨k, rfl⟩ : ∃ m, k = m + 1 := ⟨k - 1, by omega⟩
    simp only [PFnTree.laws_heldStringS.l0, show marks k0 0 = [] from rfl, List.append_nil]
    rw [if_neg (by omega)]
    rfl
  | n + 1, pre, k0, hk0, hp, k, hk => by
    obtain ⟨k, rfl⟩ : ∃ m, k = m + 1 := ⟨k - 1, by omega⟩
    have hx : marks k0 (n + 1) = markT k0 :: marks (k0 + 1) n := rfl
    rw [hx]
    have := heldS_l0 n (pre ++ [markT k0]) (k0 + 1) (by omega) (by simp; omega) k (by omega)
    rw [List.append_assoc, List.singleton_append, List.length_append, List.length_singleton] at this
    obtain ⟨L, hL⟩ : ∃ L, L = pre ++ markT k0 :: marks (k0 + 1) n := ⟨_, rfl⟩
    rw [← hL] at this ⊢
    have h1 : pre.length < L.length := by rw [hL]; simp
    have h2 : L[pre.length]? = some (markT k0) := by rw [hL]; simp
    simp only [PFnTree.laws_heldStringS.l0]
    rw [if_pos (by omega), if_pos (by omega), markT_f k0 (by omega) k (by omega)]
    simp only [Option.bind_some]
    rw [rdOf_nat _ _ (markT k0) h2, if_pos rfl, w_suc _ (by omega), w_suc _ (by omega), this, show k0 + 1 + n = k0 + (n + 1) by omega]
theorem heldS_f (n k0 : Nat) (h1 : k0 + n < 4000000000000000000) : PFnTree.laws_heldStringS.f (n + 101) (marks k0 n) (k0 : Int) = some ((k0 + n : Nat) : Int) := by
  have := heldS_l0 n [] k0 h1 (by simp; omega) (n + 101) (by omega)
  simpa [PFnTree.laws_heldStringS.f] using this
end Go.Proofs.Ytnfaiblhjgmjgaa
