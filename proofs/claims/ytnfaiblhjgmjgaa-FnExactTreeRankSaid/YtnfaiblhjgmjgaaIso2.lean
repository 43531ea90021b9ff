/-
  A flat row of nodes of a good nested tree is read back by the program.
-/
import Derived.Test.YtnfaiblhjgmjgaaIso
namespace Go.Proofs.Ytnfaiblhjgmjgaa
open Go.RowKit Go.Proofs.YtnfaiblhjgmjgaaW.PrintWords

theorem drop_flat {ns : List TN} {n : Nat} {a b : List TN} (h : ns.drop n = a ++ b) : ns.drop (n + a.length) = b := by
  rw [← List.drop_drop, h, List.drop_left]
theorem head_flat {ns : List TN} {n : Nat} {t : TN} {b : List TN} (h : ns.drop n = t :: b) : ns[n]? = some t := by
  have := congrArg List.head? h
  rw [List.head?_drop] at this
  exact this

theorem rdKids_flat (ns : List TN) (rd : Nat → Option (T × Nat × Nat)) (keys : List ByteArray) (d : Nat) :
    ∀ (xs : List LX) (i : Nat) (acc : List T) (level next : Nat) (rest : List TN), (∀ x ∈ xs, ∀ n rest, ns.drop n = flatX x n ++ rest → rd n = some (ofX x, d, n + sizeX x)) → ns.drop next = flatXL xs next ++ rest → (0 < i → level = d) →
      (∀ j x, xs[j]? = some x → 0 < i + j → (ofX x).least = keys.getD (i + j - 1) ⟨#[]⟩) →
      rdKids rd keys i (posX xs next) acc level next = some (acc ++ ofXL xs, (if xs = [] then level else d), next + sizeXL xs)
  | [], i, acc, level, next, rest, _, _, _, _ => by simp [posX, rdKids, ofXL, sizeXL]
  | x :: xs, i, acc, level, next, rest, hrd, hdr, hlv, hks => by
    have h1 : ns.drop next = flatX x next ++ (flatXL xs ((next : Int) + sizeX x) ++ rest) := by rw [hdr]; simp [flatXL]
    have h2 := hrd x List.mem_cons_self next _ h1
    have h3 := drop_flat h1
    rw [flatX_len] at h3
    have e : ((next : Int) + sizeX x) = ((next + sizeX x : Nat) : Int) := by omega
    have h4 := rdKids_flat ns rd keys d xs (i + 1) (acc ++ [ofX x]) d (next + sizeX x) rest (fun y hy => hrd y (List.mem_cons_of_mem _ hy)) (by rw [h3, e]) (fun _ => rfl)
      (fun j y hy _ => by have := hks (j + 1) y hy (by omega); rw [this]; congr 1; omega)
    have e5 : (if xs = [] then d else d) = d := by split <;> rfl
    rw [e5] at h4
    simp only [posX, rdKids, ne_eq, not_true_eq_false, if_false, h2]
    rw [if_neg (by
      rintro ⟨q1, q2⟩
      rcases q2 with q2 | q2
      · exact q2 (hlv q1).symm
      · exact q2 (hks 0 x rfl (by omega))), e, h4]
    simp [ofXL, sizeXL, Nat.add_assoc]

theorem least_ofX (x : LX) : 0 ≤ depthX x false → (ofX x).least = (keysX x).headD ⟨#[]⟩ := by
  revert x
  refine LX.ind (fun x ih => ?_)
  intro hd
  have hk := depth_kids x false hd
  rw [ofX_mk, keysX_mk]
  cases hl : x.f0 with
  | true => simp [T.least]
  | false =>
    have ha := depth_arity x false hd
    rw [hl] at ha
    simp only [Bool.false_eq_true, if_false] at ha ⊢
    cases hx : x.f2 with
    | nil => rw [hx] at ha; simp at ha
    | cons y ys =>
      have hm : y ∈ x.f2 := by rw [hx]; exact List.mem_cons_self
      have hd2 := hk hl y hm
      have h1 := ih y hm hd2
      have hne := depth_ne y hd2
      simp only [ofXL, T.least, leastL, keysXL]
      rw [h1]
      cases hh : keysX y with
      | nil => exact absurd hh hne
      | cons a b => rfl
theorem sepsX_get (xs : List LX) (j : Nat) (x : LX) (h : xs[j]? = some x) (hj : 0 < j) : (sepsX xs).getD (j - 1) ⟨#[]⟩ = (keysX x).headD ⟨#[]⟩ := by
  cases xs with
  | nil => simp at h
  | cons y ys =>
    obtain ⟨j, rfl⟩ : ∃ m, j = m + 1 := ⟨j - 1, by omega⟩
    have h2 : ys[j]? = some x := h
    simp [sepsX, List.getD_eq_getElem?_getD, h2]

theorem ofX_least_kid (xs : List LX) (d : Int) (hd0 : 0 ≤ d) (hd : ∀ y ∈ xs, depthX y false = d) : ∀ j x, xs[j]? = some x → 0 < 0 + j → (ofX x).least = (sepsX xs).getD (0 + j - 1) ⟨#[]⟩ := by
  intro j x hj h0
  rw [Nat.zero_add] at h0 ⊢
  rw [sepsX_get xs j x hj h0]
  exact least_ofX x (by rw [hd x (List.mem_of_getElem? hj)]; exact hd0)

/-- A good nested tree's flat row is read by the program. -/
theorem flat_rd (ns : List TN) : ∀ (x : LX) (r : Bool) (d f n : Nat) (rest : List TN), depthX x r = d → d < f → f ≤ 31 → (r = true → f = 31) → (keysX x).length < 1000000000 → ns.drop n = flatX x n ++ rest → rdN ns f n = some (ofX x, d, n + sizeX x) := by
  refine LX.ind (fun x ih => ?_)
  intro r d f n rest hd hf hf31 hr hkl hdr
  obtain ⟨f, rfl⟩ : ∃ m, f = m + 1 := ⟨f - 1, by omega⟩
  have hdp : 0 ≤ depthX x r := by omega
  have ha := depth_arity x r hdp
  rw [flatX_mk] at hdr
  rw [ofX_mk, sizeX_mk]
  have hdd := depthX_mk x r
  cases hl : x.f0 with
  | true =>
    rw [hl] at ha hdr hdd
    simp only [if_true] at ha hdr hdd ⊢
    have hh := head_flat (by rw [hdr]; rfl : ns.drop n = _ :: rest)
    simp only [rdN, hh, if_true]
    have hgood : ¬ leafBad (30 - f) (⟨true, x.f1, [], (x.f1.length : Int)⟩ : TN) := by
      unfold leafBad
      simp only [List.length_nil]
      rintro (q | q | q | q)
      · omega
      · omega
      · exact q rfl
      · obtain ⟨q1, q2⟩ := q
        have hrf : r = false := by
          cases r with
          | false => rfl
          | true => have := hr rfl; omega
        rw [hrf] at hdd
        rw [if_pos (.inr ⟨by omega, by simp⟩)] at hdd
        rw [hrf] at hd
        omega
    rw [if_neg hgood]
    have hd0 : d = 0 := by
      split at hdd <;> omega
    rw [hd0]
  | false =>
    rw [hl] at ha hdr hdd
    simp only [Bool.false_eq_true, if_false] at ha hdr hdd ⊢
    have hkeys : (keysXL x.f2).length < 1000000000 := by rw [keysX_mk, hl] at hkl; simpa using hkl
    have hh := head_flat (by rw [hdr]; rfl : ns.drop n = _ :: (flatXL x.f2 ((n : Int) + 1) ++ rest))
    have hdx : depthX x r = depthXL x.f2 := by
      rw [hdd, if_neg (by rintro (q | q); omega; omega)]
    obtain ⟨d', hd'0, hd'1, hne, hall⟩ := depthXL_kids x.f2 (by rw [← hdx]; exact hdp)
    have hd2 : (d : Int) = d' + 1 := by rw [← hd, hdx, hd'1]
    obtain ⟨dn, hdn⟩ : ∃ dn : Nat, d' = dn := ⟨d'.toNat, by omega⟩
    subst hdn
    simp only [rdN, hh, Bool.false_eq_true, if_false]
    rw [if_neg (by unfold nodeBad; simp only [posX_len, sepsX_len]; omega)]
    have hk := rdKids_flat ns (rdN ns f) (sepsX x.f2) dn x.f2 0 [] 0 (n + 1) rest
      (fun y hy m rest' hm => ih y hy false dn f m rest' (hall y hy) (by omega) (by omega) (by simp) (by have := kid_bounds x y hl hy; omega) hm)
      (by
        have := drop_flat (a := [(⟨false, sepsX x.f2, posX x.f2 ((n : Int) + 1), ((keysXL x.f2).length : Int)⟩ : TN)]) (b := flatXL x.f2 ((n : Int) + 1) ++ rest) (by rw [hdr]; rfl)
        rw [List.length_singleton] at this
        rw [this]
        rfl)
      (by simp) (ofX_least_kid x.f2 dn (by omega) hall)
    rw [show (((n + 1 : Nat)) : Int) = (n : Int) + 1 by omega] at hk
    rw [hk, if_neg hne]
    simp only [List.nil_append, rdFin]
    have hc : cntL 0 (ofXL x.f2) = ((keysXL x.f2).length : Int) := by
      have hke := keysL_ofXL x.f2 (fun y _ => keys_ofX y)
      rw [cntL_keys (ofXL x.f2) 0 (by omega) (fun t _ => cnt_keys t) (by rw [hke]; omega), hke]
      omega
    rw [if_neg (by rw [hc]; simp)]
    have : dn + 1 = d := by omega
    rw [this]
    congr 3
    omega
end Go.Proofs.Ytnfaiblhjgmjgaa
