/-
  The reference and the program agree on which trees are valid.
-/
import Derived.Test.YtnfaiblhjgmjgaaIso4
namespace Go.Proofs.Ytnfaiblhjgmjgaa
open Go.RowKit Go.Proofs.YtnfaiblhjgmjgaaW.PrintWords

theorem depthAll_of : ∀ (xs : List LX) (d : Int), (∀ y ∈ xs, depthX y false = d) → depthAll d xs = true
  | [], d, _ => by simp [depthAll]
  | x :: xs, d, h => by simp [depthAll, h x, depthAll_of xs d (fun y hy => h y (List.mem_cons_of_mem _ hy))]
theorem depthXL_all (xs : List LX) (d : Int) (h0 : 0 ≤ d) (hne : xs ≠ []) (h : ∀ y ∈ xs, depthX y false = d) : depthXL xs = d + 1 := by
  cases xs with
  | nil => exact absurd rfl hne
  | cons x xs =>
    have hx := h x List.mem_cons_self
    simp only [depthXL]
    rw [hx, depthAll_of xs d (fun y hy => h y (List.mem_cons_of_mem _ hy)), if_pos rfl, if_neg (by omega)]
theorem mem_toXL : ∀ (ts : List T) (x : LX), x ∈ toXL ts → ∃ t ∈ ts, x = toX t
  | [], x, h => by simp [toXL] at h
  | t :: ts, x, h => by
    simp only [toXL, List.mem_cons] at h
    rcases h with rfl | h
    · exact ⟨t, List.mem_cons_self, rfl⟩
    · obtain ⟨u, hu, e⟩ := mem_toXL ts x h
      exact ⟨u, List.mem_cons_of_mem _ hu, e⟩

theorem rd_flat (ns : List TN) (hns : ns.length ≤ 5000) : ∀ (f n : Nat) (t : T) (lv nx : Nat), f ≤ 31 → rdN ns f n = some (t, lv, nx) →
    ns.drop n = flatX (toX t) n ++ ns.drop nx ∧ nx = n + sizeX (toX t) ∧ depthX (toX t) true = (lv : Int) ∧ (f < 31 → depthX (toX t) false = (lv : Int)) ∧ 2 ^ lv ≤ sizeX (toX t)
  | 0, n, t, lv, nx, _, h => by simp [rdN] at h
  | f + 1, n, t, lv, nx, hf, h => by
    have hprop := rdN_props ns (f + 1) n t lv nx h
    unfold rdN at h
    split at h
    · simp at h
    · rename_i x hx
      have hlt : n < ns.length := (List.getElem?_eq_some_iff.1 hx).1
      have hdrop := drop_step ns n x hx
      split at h
      · rename_i hl
        split at h
        · simp at h
        · rename_i hb
          simp only [Option.some.injEq, Prod.mk.injEq] at h
          obtain ⟨rfl, rfl, rfl⟩ := h
          obtain ⟨g1, g2, g3, g4⟩ := leaf_good hb
          have ex : x = ⟨true, x.f1, [], (x.f1.length : Int)⟩ := by
            cases x with
            | mk a b c d =>
              simp only at hl g1 g3
              subst hl
              obtain rfl : c = [] := List.eq_nil_of_length_eq_zero (by omega)
              rw [g3]
          refine ⟨?_, by simp [toX, sizeX], ?_, ?_, by simp [toX, sizeX]⟩
          · rw [hdrop]
            simp only [toX, flatX, if_true, List.singleton_append]
            rw [← ex]
          · rw [depthX_mk]
            simp only [toX, if_true]
            rw [if_neg (by rintro (q | q); omega; exact q.2 ⟨trivial, trivial⟩)]
            rfl
          · intro h31
            rw [depthX_mk]
            simp only [toX, if_true]
            have := g4 (by omega)
            rw [if_neg (by rintro (q | q); omega; omega)]
            rfl
      · rename_i hl
        split at h
        · simp at h
        · rename_i hb
          obtain ⟨g1, g2, g3⟩ := node_good hb
          unfold rdFin at h
          split at h
          · simp at h
          · rename_i kids level nx2 hk
            split at h
            · simp at h
            · rename_i hc
              simp only [Option.some.injEq, Prod.mk.injEq] at h
              obtain ⟨rfl, rfl, rfl⟩ := h
              obtain ⟨new, q1, q2, q3, q4, q5, _, q7, q8⟩ := rdKids_inv ns (rdN ns f) x.f1 (fun n t lv nx hh => by
                have := rd_flat ns hns f n t lv nx (by omega) hh
                exact ⟨this.1, this.2.1, this.2.2.2.1 (by omega), this.2.2.2.2⟩) _ _ _ _ _ _ _ _ hk
              rw [List.nil_append] at q1
              subst q1
              have hlen : kids.length = x.f2.length := by rw [q2, posX_len, toXL_len]
              have hall : ∀ y ∈ toXL kids, depthX y false = (level : Int) := by
                intro y hy
                obtain ⟨t, ht, rfl⟩ := mem_toXL kids y hy
                exact q5 t ht
              have hne : toXL kids ≠ [] := by
                intro e
                have := congrArg List.length e
                rw [toXL_len, List.length_nil] at this
                omega
              have hdx := depthXL_all (toXL kids) level (by omega) hne hall
              have hkl := keysXL_le (toXL kids) (fun y hy => keys_le y false (by rw [hall y hy]; omega))
              have hnx := hprop.2.1
              have hke := keysXL_toXL kids (fun t _ => keysX_toX t)
              have hcnt : cntL 0 kids = ((keysXL (toXL kids)).length : Int) := by
                rw [cntL_keys kids 0 (by omega) (fun t _ => cnt_keys t) (by rw [← hke]; omega), hke]
                omega
              have hseps := seps_of x.f1 kids level (by omega) q5 q7
              have ex : x = ⟨false, sepsX (toXL kids), posX (toXL kids) ((n : Int) + 1), ((keysXL (toXL kids)).length : Int)⟩ := by
                rw [hseps, ← hcnt]
                have hc2 : cntL 0 kids = x.f3 := Decidable.byContradiction hc
                rw [hc2]
                rw [show ((n : Int) + 1) = ((n + 1 : Nat) : Int) by omega, ← q2]
                cases x with
                | mk a b c d =>
                  simp only at hl
                  have : a = false := by cases a <;> simp_all
                  subst this
                  rfl
              have hd : ∀ r, depthX (toX (.node kids)) r = ((level + 1 : Nat) : Int) := by
                intro r
                rw [depthX_mk]
                simp only [toX, Bool.false_eq_true, if_false]
                rw [toXL_len, if_neg (by rintro (q | q); omega; omega), hdx]
                omega
              have hsz : sizeX (toX (.node kids)) = sizeXL (toXL kids) + 1 := by simp [toX, sizeX]
              refine ⟨?_, by rw [hsz]; omega, hd true, fun _ => hd false, ?_⟩
              · rw [hdrop, q3, flatX_mk]
                simp only [toX, Bool.false_eq_true, if_false]
                rw [show (((n + 1 : Nat)) : Int) = (n : Int) + 1 by omega, List.cons_append]
                congr 1
              · rw [hsz, Nat.pow_succ]
                have : 2 * 2 ^ level ≤ kids.length * 2 ^ level := Nat.mul_le_mul_right _ (by omega)
                omega

theorem spec_to_root (ns : List TN) (h : (specX ns).isSome = true) : (rootP ns).isSome = true := by
  unfold specX at h
  split at h
  · simp at h
  · rename_i hlen
    split at h
    · simp at h
    · rename_i x nx hn
      split at h
      · simp at h
      · rename_i hd
        split at h
        · rename_i ho
          split at h
          · rename_i hf
            have hnx : nx = ns.length := Decidable.byContradiction (fun q => hd (.inl q))
            have hd0 : ¬ depthX x true < 0 := fun q => hd (.inr q)
            have hsz := nestN_size ns 21 0 x nx hn
            have hdp := nestN_depth ns 21 0 x nx true hn
            have hkl := keys_le x true (by omega)
            have hr := flat_rd ns x true (depthX x true).toNat 31 0 [] (by omega) (by omega) (by omega) (fun _ => rfl) (by omega) (by rw [List.drop_zero, List.append_nil]; exact hf.symm)
            unfold rootP
            rw [if_neg (by omega), hr]
            simp only
            rw [if_neg (by omega), keys_ofX, if_pos ho]
            rfl
          · simp at h
        · simp at h
theorem root_to_spec (ns : List TN) (h : (rootP ns).isSome = true) : (specX ns).isSome = true := by
  unfold rootP at h
  split at h
  · simp at h
  · rename_i hlen
    split at h
    · simp at h
    · rename_i t lv nx hn
      split at h
      · simp at h
      · rename_i hnx
        split at h
        · rename_i ho
          have hnx2 : nx = ns.length := Decidable.byContradiction hnx
          obtain ⟨p1, p2, p3, _, p5⟩ := rd_flat ns (by omega) 31 0 t lv nx (by omega) hn
          have hlv : lv < 21 := by
            refine Decidable.byContradiction (fun q => ?_)
            have := Nat.pow_le_pow_right (show 0 < 2 by omega) (show 21 ≤ lv by omega)
            omega
          have hst := flat_nest ns t true lv 21 0 (ns.drop nx) p3 (by omega) p1
          have hs1 : 1 ≤ sizeX (toX t) := by rw [sizeX_mk]; split <;> omega
          have hfl : flatX (toX t) 0 = ns := by
            have e : ns.drop nx = [] := List.drop_eq_nil_of_le (by omega)
            rw [e, List.append_nil, List.drop_zero] at p1
            exact p1.symm
          unfold specX
          rw [if_neg (by omega), hst]
          simp only
          rw [if_neg (by omega), keysX_toX, if_pos ho, if_pos hfl]
          rfl
        · simp at h
theorem specX_root (ns : List TN) : (specX ns).isSome = (rootP ns).isSome := by
  cases h1 : (specX ns).isSome with
  | true => rw [spec_to_root ns h1]
  | false =>
    cases h2 : (rootP ns).isSome with
    | false => rfl
    | true => rw [root_to_spec ns h2] at h1; cases h1
end Go.Proofs.Ytnfaiblhjgmjgaa
