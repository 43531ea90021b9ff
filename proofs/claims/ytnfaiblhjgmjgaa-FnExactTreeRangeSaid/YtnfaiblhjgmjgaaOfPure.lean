/-
  What is known of a nested tree that was read and is of good depth: sizes.
-/
import Derived.Test.YtnfaiblhjgmjgaaDepth
namespace Go.Proofs.Ytnfaiblhjgmjgaa
open Go.RowKit Go.Proofs.YtnfaiblhjgmjgaaW.PrintWords

theorem nestKids_size (rd : Nat → Option (LX × Nat)) (hrd : ∀ n x nx, rd n = some (x, nx) → sizeX x + n = nx) :
    ∀ (rest : List Int) (acc : List LX) (nx : Nat) (kids : List LX) (nx' : Nat), nestKids rd rest acc nx = some (kids, nx') → sizeXL kids + nx = sizeXL acc + nx'
  | [], acc, nx, kids, nx', h => by
    simp only [nestKids, Option.some.injEq, Prod.mk.injEq] at h
    obtain ⟨rfl, rfl⟩ := h
    rfl
  | a :: rest, acc, nx, kids, nx', h => by
    unfold nestKids at h
    split at h
    · simp at h
    · split at h
      · simp at h
      · rename_i k nx2 hk
        have h1 := nestKids_size rd hrd rest (acc ++ [k]) nx2 kids nx' h
        have h2 := hrd _ _ _ hk
        rw [sizeXL_append] at h1
        simp only [sizeXL] at h1
        omega
theorem nestN_size (ns : List TN) : ∀ (f n : Nat) (x : LX) (nx : Nat), nestN ns f n = some (x, nx) → sizeX x + n = nx
  | 0, n, x, nx, h => by simp [nestN] at h
  | f + 1, n, x, nx, h => by
    unfold nestN at h
    split at h
    · simp at h
    · rename_i t ht
      split at h
      · split at h
        · simp only [Option.some.injEq, Prod.mk.injEq] at h
          obtain ⟨rfl, rfl⟩ := h
          rw [sizeX_mk]
          simp only [if_true]
          omega
        · simp at h
      · unfold nestFin at h
        split at h
        · simp at h
        · rename_i kids nx2 hk
          split at h
          · simp only [Option.some.injEq, Prod.mk.injEq] at h
            obtain ⟨rfl, rfl⟩ := h
            have h1 := nestKids_size (nestN ns f) (nestN_size ns f) _ _ _ _ _ hk
            rw [sizeX_mk]
            simp only [Bool.false_eq_true, if_false]
            simp only [sizeXL] at h1
            omega
          · simp at h

theorem keysXL_le : ∀ (l : List LX), (∀ y ∈ l, (keysX y).length ≤ 4 * sizeX y) → (keysXL l).length ≤ 4 * sizeXL l
  | [], _ => by simp [keysXL, sizeXL]
  | x :: l, h => by
    have h1 := h x List.mem_cons_self
    have h2 := keysXL_le l (fun y hy => h y (List.mem_cons_of_mem _ hy))
    simp only [keysXL, sizeXL, List.length_append]
    omega
theorem depth_arity (x : LX) (r : Bool) (h : 0 ≤ depthX x r) : if x.f0 then x.f1.length ≤ 4 else (2 ≤ x.f2.length ∧ x.f2.length ≤ 4) := by
  rw [depthX_mk] at h
  cases hl : x.f0 with
  | true =>
    rw [hl] at h
    simp only [if_true] at h ⊢
    split at h
    · omega
    · rename_i hn
      have : ¬ ((x.f1.length : Int) > 4) := fun q => hn (.inl q)
      omega
  | false =>
    rw [hl] at h
    simp only [Bool.false_eq_true, if_false] at h ⊢
    split at h
    · omega
    · rename_i hn
      have h1 : ¬ ((x.f2.length : Int) > 4) := fun q => hn (.inl q)
      have h2 : ¬ ((x.f2.length : Int) < 2) := fun q => hn (.inr ⟨q, by simp⟩)
      omega
theorem keys_le : ∀ (x : LX) (r : Bool), 0 ≤ depthX x r → (keysX x).length ≤ 4 * sizeX x := by
  refine LX.ind (fun x ih => ?_)
  intro r h
  have ha := depth_arity x r h
  have hk := depth_kids x r h
  rw [keysX_mk, sizeX_mk]
  cases hl : x.f0 with
  | true =>
    rw [hl] at ha
    simp only [if_true] at ha ⊢
    omega
  | false =>
    simp only [Bool.false_eq_true, if_false]
    have := keysXL_le x.f2 (fun y hy => ih y hy false (hk hl y hy))
    omega
theorem posX_len : ∀ (l : List LX) (p : Int), (posX l p).length = l.length
  | [], p => rfl
  | x :: l, p => by simp [posX, posX_len l]
theorem sepsX_len (l : List LX) : (sepsX l).length = l.length - 1 := by cases l <;> simp [sepsX]
theorem flatXL_small : ∀ (l : List LX), (∀ y ∈ l, ∀ p, ∀ t ∈ flatX y p, t.f1.length ≤ 4 ∧ t.f2.length ≤ 4) → ∀ p, ∀ t ∈ flatXL l p, t.f1.length ≤ 4 ∧ t.f2.length ≤ 4
  | [], _, p, t, ht => by simp [flatXL] at ht
  | x :: l, h, p, t, ht => by
    simp only [flatXL, List.mem_append] at ht
    rcases ht with ht | ht
    · exact h x List.mem_cons_self p t ht
    · exact flatXL_small l (fun y hy => h y (List.mem_cons_of_mem _ hy)) _ t ht
theorem flatX_mk (x : LX) (p : Int) : flatX x p = if x.f0 then [⟨true, x.f1, [], x.f1.length⟩] else ⟨false, sepsX x.f2, posX x.f2 (p + 1), (keysXL x.f2).length⟩ :: flatXL x.f2 (p + 1) := by cases x; simp [flatX]
theorem flat_small : ∀ (x : LX) (r : Bool), 0 ≤ depthX x r → ∀ p, ∀ t ∈ flatX x p, t.f1.length ≤ 4 ∧ t.f2.length ≤ 4 := by
  refine LX.ind (fun x ih => ?_)
  intro r h p t ht
  have ha := depth_arity x r h
  have hk := depth_kids x r h
  rw [flatX_mk] at ht
  cases hl : x.f0 with
  | true =>
    rw [hl] at ha ht
    simp only [if_true, List.mem_singleton] at ha ht
    subst ht
    simp only [List.length_nil]
    omega
  | false =>
    rw [hl] at ha ht
    simp only [Bool.false_eq_true, if_false, List.mem_cons] at ha ht
    rcases ht with rfl | ht
    · simp only [posX_len, sepsX_len]
      omega
    · exact flatXL_small x.f2 (fun y hy p t ht => ih y hy false (hk hl y hy) p t ht) _ t ht

instance : DecidableEq TN := fun x y => decidable_of_iff (x.f0 = y.f0 ∧ x.f1 = y.f1 ∧ x.f2 = y.f2 ∧ x.f3 = y.f3) (by cases x; cases y; simp)

/-- What the reference makes of the nodes. -/
def specX (ns : List TN) : Option LX :=
  if ns.length < 1 ∨ 5000 < ns.length then none else
  match nestN ns 21 0 with
  | none => none
  | some (x, nx) => if nx ≠ ns.length ∨ depthX x true < 0 then none else if ordOk (keysX x) = true then (if flatX x 0 = ns then some x else none) else none

/-! ### the keys' order, key by key -/
def lastOf (ks : List ByteArray) (i : Nat) : ByteArray := if i = 0 then ⟨#[]⟩ else ks.getD (i - 1) ⟨#[]⟩
theorem runK_snoc (s : ByteArray × Bool) (xs : List ByteArray) (k : ByteArray) (h : (runK ordStep s xs).2 = true) : runK ordStep s (xs ++ [k]) = ((k, false), ordB (runK ordStep s xs).1.1 (runK ordStep s xs).1.2 k) := by
  rw [runK_append, if_pos h]
  show (if (ordStep (runK ordStep s xs).1 k).2 = true then ((ordStep (runK ordStep s xs).1 k).1, true) else ((ordStep (runK ordStep s xs).1 k).1, false)) = _
  by_cases hq : (ordStep (runK ordStep s xs).1 k).2 = true
  · rw [if_pos hq]
    exact Prod.ext rfl hq.symm
  · rw [if_neg hq]
    exact Prod.ext rfl (Bool.eq_false_iff.2 hq).symm
theorem runK_state (ks : List ByteArray) : ∀ i, i ≤ ks.length → (runK ordStep (⟨#[]⟩, true) (ks.take i)).2 = true → (runK ordStep (⟨#[]⟩, true) (ks.take i)).1 = (lastOf ks i, decide (i = 0))
  | 0, _, _ => by simp [runK, lastOf]
  | i + 1, hi, h => by
    obtain ⟨k, hk⟩ : ∃ k, ks[i]? = some k := ⟨_, List.getElem?_eq_getElem (by omega)⟩
    have e : ks.take (i + 1) = ks.take i ++ [k] := by rw [List.take_add_one, hk]; rfl
    have h2 : (runK ordStep (⟨#[]⟩, true) (ks.take i)).2 = true := by
      rw [e, runK_append] at h
      by_cases q : (runK ordStep (⟨#[]⟩, true) (ks.take i)).2 = true
      · exact q
      · rw [if_neg q] at h; simp at h
    rw [e, runK_snoc _ _ _ h2]
    simp [lastOf, hk]
/-- The test at one key. -/
theorem ord_next (ks : List ByteArray) (i : Nat) (k : ByteArray) (hk : ks[i]? = some k) (h : (runK ordStep (⟨#[]⟩, true) (ks.take i)).2 = true) : (runK ordStep (⟨#[]⟩, true) (ks.take (i + 1))).2 = ordB (lastOf ks i) (decide (i = 0)) k := by
  have hi : i < ks.length := (List.getElem?_eq_some_iff.1 hk).1
  have e : ks.take (i + 1) = ks.take i ++ [k] := by rw [List.take_add_one, hk]; rfl
  rw [e, runK_snoc _ _ _ h, runK_state ks i (by omega) h]
theorem ord_bad (ks : List ByteArray) (i : Nat) (h : (runK ordStep (⟨#[]⟩, true) (ks.take i)).2 = false) : ordOk ks = false := by
  unfold ordOk
  rw [← List.take_append_drop i ks, runK_append, if_neg (by rw [h]; simp)]
theorem ord_all (ks : List ByteArray) (h : (runK ordStep (⟨#[]⟩, true) (ks.take ks.length)).2 = true) : ordOk ks = true := by
  rw [List.take_length] at h
  exact h
theorem ordB_eq (ks : List ByteArray) (i : Nat) (k : ByteArray) : ordB (lastOf ks i) (decide (i = 0)) k = (decide (k.size ≤ 16) && (decide (i = 0) || Op.bytesLess (ks.getD (i - 1) ⟨#[]⟩).toList k.toList)) := by
  unfold ordB lastOf
  by_cases h : i = 0
  · simp [h]
  · simp [h]
end Go.Proofs.Ytnfaiblhjgmjgaa
