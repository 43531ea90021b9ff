/-
  What the program reads is a flat row of a good nested tree.
-/
import Derived.Test.YtnfaiblhjgmjgaaIso3
namespace Go.Proofs.Ytnfaiblhjgmjgaa
open Go.RowKit Go.Proofs.YtnfaiblhjgmjgaaW.PrintWords

theorem rdKids_inv (ns : List TN) (rd : Nat → Option (T × Nat × Nat)) (keys : List ByteArray)
    (hrd : ∀ n t lv nx, rd n = some (t, lv, nx) → ns.drop n = flatX (toX t) n ++ ns.drop nx ∧ nx = n + sizeX (toX t) ∧ depthX (toX t) false = (lv : Int) ∧ 2 ^ lv ≤ sizeX (toX t)) :
    ∀ (rest : List Int) (i : Nat) (acc : List T) (level next : Nat) (kids : List T) (lv' nx' : Nat), rdKids rd keys i rest acc level next = some (kids, lv', nx') →
      ∃ new : List T, kids = acc ++ new ∧ rest = posX (toXL new) next ∧ ns.drop next = flatXL (toXL new) next ++ ns.drop nx' ∧ nx' = next + sizeXL (toXL new) ∧ (∀ t ∈ new, depthX (toX t) false = (lv' : Int)) ∧ (0 < i → level = lv') ∧
        (∀ j t, new[j]? = some t → 0 < i + j → t.least = keys.getD (i + j - 1) ⟨#[]⟩) ∧ new.length * 2 ^ lv' ≤ sizeXL (toXL new)
  | [], i, acc, level, next, kids, lv', nx', h => by
    simp only [rdKids, Option.some.injEq, Prod.mk.injEq] at h
    obtain ⟨rfl, rfl, rfl⟩ := h
    exact ⟨[], by simp, by simp [toXL, posX], by simp [toXL, flatXL], by simp [toXL, sizeXL], by simp, fun _ => rfl, by simp, by simp⟩
  | a :: rest, i, acc, level, next, kids, lv', nx', h => by
    unfold rdKids at h
    split at h
    · simp at h
    · rename_i ha
      split at h
      · simp at h
      · rename_i k below nx2 hk
        split at h
        · simp at h
        · rename_i hc
          obtain ⟨p1, p2, p3, p4⟩ := hrd _ _ _ _ hk
          obtain ⟨new, q1, q2, q3, q4, q5, q6, q7, q8⟩ := rdKids_inv ns rd keys hrd rest (i + 1) (acc ++ [k]) below nx2 kids lv' nx' h
          have hbl : below = lv' := q6 (by omega)
          subst hbl
          have e : ((next : Int) + sizeX (toX k)) = (nx2 : Int) := by omega
          refine ⟨k :: new, by rw [q1]; simp, ?_, ?_, ?_, ?_, ?_, ?_, ?_⟩
          · simp only [toXL, posX]
            rw [e, ← q2]
            congr 1
            exact Decidable.byContradiction ha
          · simp only [toXL, flatXL]
            rw [e, List.append_assoc, ← q3]
            exact p1
          · simp only [toXL, sizeXL]
            omega
          · intro t ht
            rcases List.mem_cons.1 ht with rfl | ht
            · exact p3
            · exact q5 t ht
          · intro hi
            exact Decidable.byContradiction (fun q => hc ⟨hi, .inl (fun e => q e.symm)⟩)
          · intro j t hj h0
            cases j with
            | zero =>
              obtain rfl : k = t := by simpa using hj
              exact Classical.byContradiction (fun q => hc ⟨by omega, .inr q⟩)
            | succ j =>
              have := q7 j t hj (by omega)
              rw [this]
              congr 1
              omega
          · simp only [toXL, sizeXL, List.length_cons, Nat.add_mul, Nat.one_mul]
            omega

theorem seps_of (keys : List ByteArray) (new : List T) (lv : Nat) (hl : keys.length + 1 = new.length) (hd : ∀ t ∈ new, depthX (toX t) false = (lv : Int)) (hk : ∀ j t, new[j]? = some t → 0 < 0 + j → t.least = keys.getD (0 + j - 1) ⟨#[]⟩) : sepsX (toXL new) = keys := by
  have hget : ∀ (ts : List T) (j : Nat), (toXL ts)[j]? = (ts[j]?).map toX := by
    intro ts
    induction ts with
    | nil => intro j; simp [toXL]
    | cons t ts ih => intro j; cases j with
      | zero => simp [toXL]
      | succ j => simp [toXL, ih j]
  refine List.ext_getElem? (fun j => ?_)
  by_cases hj : j < keys.length
  · obtain ⟨t, ht⟩ : ∃ t, new[j + 1]? = some t := ⟨_, List.getElem?_eq_getElem (by omega)⟩
    have h1 := hk (j + 1) t ht (by omega)
    have h2 := sepsX_get (toXL new) (j + 1) (toX t) (by rw [hget, ht]; rfl) (by omega)
    have h3 := least_first t (by rw [hd t (List.mem_of_getElem? ht)]; omega)
    rw [keysX_toX, ← h3, h1] at h2
    have hs : j < (sepsX (toXL new)).length := by rw [sepsX_len, toXL_len]; omega
    have e : 0 + (j + 1) - 1 = j := by omega
    have e2 : j + 1 - 1 = j := by omega
    rw [e, e2] at h2
    rw [List.getElem?_eq_getElem hs, List.getElem?_eq_getElem hj]
    simp only [List.getD_eq_getElem?_getD, List.getElem?_eq_getElem hs, List.getElem?_eq_getElem hj, Option.getD_some] at h2
    rw [h2]
  · rw [List.getElem?_eq_none (by rw [sepsX_len, toXL_len]; omega), List.getElem?_eq_none (by omega)]
end Go.Proofs.Ytnfaiblhjgmjgaa
