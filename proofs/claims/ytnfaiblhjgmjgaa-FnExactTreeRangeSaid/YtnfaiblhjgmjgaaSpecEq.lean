/-
  The program's trees and the reference's nested trees: the same trees.
-/
import Derived.Test.YtnfaiblhjgmjgaaOfPure
namespace Go.Proofs.Ytnfaiblhjgmjgaa
open Go.RowKit Go.Proofs.YtnfaiblhjgmjgaaW.PrintWords

mutual
def toX : T → LX
  | .leaf ks => ⟨true, ks, []⟩
  | .node kids => ⟨false, [], toXL kids⟩
def toXL : List T → List LX
  | [] => []
  | t :: ts => toX t :: toXL ts
end
mutual
def ofX : LX → T
  | ⟨l, ks, kids⟩ => if l then .leaf ks else .node (ofXL kids)
def ofXL : List LX → List T
  | [] => []
  | x :: xs => ofX x :: ofXL xs
end
theorem toXL_append : ∀ a b : List T, toXL (a ++ b) = toXL a ++ toXL b
  | [], b => by simp [toXL]
  | t :: a, b => by simp [toXL, toXL_append a b]
theorem ofXL_append : ∀ a b : List LX, ofXL (a ++ b) = ofXL a ++ ofXL b
  | [], b => by simp [ofXL]
  | t :: a, b => by simp [ofXL, ofXL_append a b]
theorem toXL_len : ∀ a : List T, (toXL a).length = a.length
  | [] => rfl
  | t :: a => by simp [toXL, toXL_len a]
theorem ofXL_len : ∀ a : List LX, (ofXL a).length = a.length
  | [] => rfl
  | t :: a => by simp [ofXL, ofXL_len a]
theorem ofX_mk (x : LX) : ofX x = if x.f0 then .leaf x.f1 else .node (ofXL x.f2) := by cases x; simp [ofX]
theorem keysXL_toXL : ∀ ts : List T, (∀ t ∈ ts, keysX (toX t) = t.keys) → keysXL (toXL ts) = keysL ts
  | [], _ => by simp [toXL, keysXL, keysL]
  | t :: ts, h => by simp [toXL, keysXL, keysL, h t, keysXL_toXL ts (fun y hy => h y (List.mem_cons_of_mem _ hy))]
theorem keysX_toX : ∀ t : T, keysX (toX t) = t.keys := by
  refine T.ind (fun ks => by simp [toX, keysX, T.keys]) (fun kids ih => ?_)
  simp [toX, keysX, T.keys, keysXL_toXL kids ih]
theorem keysL_ofXL : ∀ xs : List LX, (∀ x ∈ xs, (ofX x).keys = keysX x) → keysL (ofXL xs) = keysXL xs
  | [], _ => by simp [ofXL, keysXL, keysL]
  | t :: ts, h => by simp [ofXL, keysXL, keysL, h t, keysL_ofXL ts (fun y hy => h y (List.mem_cons_of_mem _ hy))]
theorem keys_ofX : ∀ x : LX, (ofX x).keys = keysX x := by
  refine LX.ind (fun x ih => ?_)
  rw [ofX_mk, keysX_mk]
  cases x.f0 with
  | true => simp [T.keys]
  | false => simp [T.keys, keysL_ofXL x.f2 ih]
/-- The count is the number of keys, where that is no great number. -/
theorem cntL_keys : ∀ (ts : List T) (a : Int), 0 ≤ a → (∀ t ∈ ts, t.keys.length < 1000000000 → T.cnt t = t.keys.length) → a + (keysL ts).length < 1000000000 → cntL a ts = a + (keysL ts).length
  | [], a, _, _, _ => by simp [cntL, keysL]
  | t :: ts, a, h0, h, hb => by
    simp only [keysL, List.length_append] at hb ⊢
    have h1 := h t List.mem_cons_self (by omega)
    have e : wrap64 (a + T.cnt t) = a + t.keys.length := by rw [h1]; unfold wrap64; omega
    simp only [cntL]
    rw [e, cntL_keys ts (a + t.keys.length) (by omega) (fun y hy => h y (List.mem_cons_of_mem _ hy)) (by omega)]
    omega
theorem cnt_keys : ∀ t : T, t.keys.length < 1000000000 → T.cnt t = t.keys.length := by
  refine T.ind (fun ks _ => by simp [T.cnt, T.keys]) (fun kids ih h => ?_)
  simp only [T.cnt, T.keys] at h ⊢
  rw [cntL_keys kids 0 (by omega) ih (by omega)]
  omega
/-- The least key is the first. -/
theorem least_first : ∀ t : T, 0 ≤ depthX (toX t) false → t.least = t.keys.headD ⟨#[]⟩ := by
  refine T.ind (fun ks _ => by simp [T.least, T.keys]) (fun kids ih hd => ?_)
  cases kids with
  | nil => simp [toX, toXL, depthX] at hd
  | cons k ks =>
    have hk := depth_kids (toX (.node (k :: ks))) false hd (by simp [toX]) (toX k) (by simp [toX, toXL])
    have hne := depth_ne (toX k) hk
    rw [keysX_toX] at hne
    have := ih k List.mem_cons_self hk
    simp only [T.least, leastL, T.keys, keysL]
    rw [this]
    cases hh : k.keys with
    | nil => exact absurd hh hne
    | cons a b => rfl

theorem nestKids_mem (rd : Nat → Option (LX × Nat)) : ∀ (rest : List Int) (acc : List LX) (nx : Nat) (kids : List LX) (nx' : Nat), nestKids rd rest acc nx = some (kids, nx') → ∀ y ∈ kids, y ∈ acc ∨ ∃ n m, rd n = some (y, m)
  | [], acc, nx, kids, nx', h, y, hy => by
    simp only [nestKids, Option.some.injEq, Prod.mk.injEq] at h
    obtain ⟨rfl, rfl⟩ := h
    exact .inl hy
  | a :: rest, acc, nx, kids, nx', h, y, hy => by
    unfold nestKids at h
    split at h
    · simp at h
    · split at h
      · simp at h
      · rename_i k nx2 hk
        rcases nestKids_mem rd rest (acc ++ [k]) nx2 kids nx' h y hy with q | q
        · rcases List.mem_append.1 q with q | q
          · exact .inl q
          · rw [List.mem_singleton] at q
            subst q
            exact .inr ⟨_, _, hk⟩
        · exact .inr q
/-- How deep the reference reads bounds the depth. -/
theorem nestN_depth (ns : List TN) : ∀ (f n : Nat) (x : LX) (nx : Nat) (r : Bool), nestN ns f n = some (x, nx) → depthX x r < f
  | 0, n, x, nx, r, h => by simp [nestN] at h
  | f + 1, n, x, nx, r, h => by
    unfold nestN at h
    split at h
    · simp at h
    · rename_i t ht
      split at h
      · split at h
        · simp only [Option.some.injEq, Prod.mk.injEq] at h
          obtain ⟨rfl, rfl⟩ := h
          rw [depthX_mk]
          simp only [if_true]
          split <;> omega
        · simp at h
      · unfold nestFin at h
        split at h
        · simp at h
        · rename_i kids nx2 hk
          split at h
          · simp only [Option.some.injEq, Prod.mk.injEq] at h
            obtain ⟨rfl, rfl⟩ := h
            have hm := nestKids_mem (nestN ns f) _ _ _ _ _ hk
            rw [depthX_mk]
            simp only [Bool.false_eq_true, if_false]
            split
            · omega
            · cases kids with
              | nil => simp only [depthXL]; omega
              | cons y ys =>
                have hy : depthX y false < f := by
                  rcases hm y List.mem_cons_self with q | ⟨n', m', q⟩
                  · simp at q
                  · exact nestN_depth ns f n' y m' false q
                simp only [depthXL]
                split
                · split <;> omega
                · omega
          · simp at h
end Go.Proofs.Ytnfaiblhjgmjgaa
/-
  A flat row of nodes of a good nested tree is read back by the program.
-/
namespace Go.Proofs.Ytnfaiblhjgmjgaa
open Go.RowKit Go.Proofs.YtnfaiblhjgmjgaaW.PrintWords

theorem drop_flat {ns : List TN} {n : Nat} {a b : List TN} (h : ns.drop n = a ++ b) : ns.drop (n + a.length) = b := by
  rw [← List.drop_drop, h, List.drop_left]
theorem head_flat {ns : List TN} {n : Nat} {t : TN} {b : List TN} (h : ns.drop n = t :: b) : ns[n]? = some t := by
  have := congrArg List.head? h
  rw [List.head?_drop] at this
  exact this

theorem rdKids_flat (ns : List TN) (rd : Nat → Option (T × Nat × Nat)) (keys : List ByteArray) (d : Nat) :
    ∀ (xs : List LX) (i : Nat) (acc : List T) (level next : Nat) (rest : List TN), (∀ x ∈ xs, ∀ n rest, ns.drop n = flatX x n ++ rest → rd n = some (ofX x, d, n + sizeX x)) → ns.drop next = flatXL xs next ++ rest → (0 < i → level = d) →
      (∀ j x, xs[j]? = some x → 0 < i + j → (ofX x).least = keys.getD (i + j - 1) ⟨#[]⟩) →
      rdKids rd keys i (posX xs next) acc level next = some (acc ++ ofXL xs, (if xs = [] then level else d), next + sizeXL xs)
  | [], i, acc, level, next, rest, _, _, _, _ => by simp [posX, rdKids, ofXL, sizeXL]
  | x :: xs, i, acc, level, next, rest, hrd, hdr, hlv, hks => by
    have h1 : ns.drop next = flatX x next ++ (flatXL xs ((next : Int) + sizeX x) ++ rest) := by rw [hdr]; simp [flatXL]
    have h2 := hrd x List.mem_cons_self next _ h1
    have h3 := drop_flat h1
    rw [flatX_len] at h3
    have e : ((next : Int) + sizeX x) = ((next + sizeX x : Nat) : Int) := by omega
    have h4 := rdKids_flat ns rd keys d xs (i + 1) (acc ++ [ofX x]) d (next + sizeX x) rest (fun y hy => hrd y (List.mem_cons_of_mem _ hy)) (by rw [h3, e]) (fun _ => rfl)
      (fun j y hy _ => by have := hks (j + 1) y hy (by omega); rw [this]; congr 1; omega)
    have e5 : (if xs = [] then d else d) = d := by split <;> rfl
    rw [e5] at h4
    simp only [posX, rdKids, ne_eq, not_true_eq_false, if_false, h2]
    rw [if_neg (by
      rintro ⟨q1, q2⟩
      rcases q2 with q2 | q2
      · exact q2 (hlv q1).symm
      · exact q2 (hks 0 x rfl (by omega))), e, h4]
    simp [ofXL, sizeXL, Nat.add_assoc]

theorem least_ofX (x : LX) : 0 ≤ depthX x false → (ofX x).least = (keysX x).headD ⟨#[]⟩ := by
  revert x
  refine LX.ind (fun x ih => ?_)
  intro hd
  have hk := depth_kids x false hd
  rw [ofX_mk, keysX_mk]
  cases hl : x.f0 with
  | true => simp [T.least]
  | false =>
    have ha := depth_arity x false hd
    rw [hl] at ha
    simp only [Bool.false_eq_true, if_false] at ha ⊢
    cases hx : x.f2 with
    | nil => rw [hx] at ha; simp at ha
    | cons y ys =>
      have hm : y ∈ x.f2 := by rw [hx]; exact List.mem_cons_self
      have hd2 := hk hl y hm
      have h1 := ih y hm hd2
      have hne := depth_ne y hd2
      simp only [ofXL, T.least, leastL, keysXL]
      rw [h1]
      cases hh : keysX y with
      | nil => exact absurd hh hne
      | cons a b => rfl
theorem sepsX_get (xs : List LX) (j : Nat) (x : LX) (h : xs[j]? = some x) (hj : 0 < j) : (sepsX xs).getD (j - 1) ⟨#[]⟩ = (keysX x).headD ⟨#[]⟩ := by
  cases xs with
  | nil => simp at h
  | cons y ys =>
    obtain ⟨j, rfl⟩ : ∃ m, j = m + 1 := ⟨j - 1, by omega⟩
    have h2 : ys[j]? = some x := h
    simp [sepsX, List.getD_eq_getElem?_getD, h2]

theorem ofX_least_kid (xs : List LX) (d : Int) (hd0 : 0 ≤ d) (hd : ∀ y ∈ xs, depthX y false = d) : ∀ j x, xs[j]? = some x → 0 < 0 + j → (ofX x).least = (sepsX xs).getD (0 + j - 1) ⟨#[]⟩ := by
  intro j x hj h0
  rw [Nat.zero_add] at h0 ⊢
  rw [sepsX_get xs j x hj h0]
  exact least_ofX x (by rw [hd x (List.mem_of_getElem? hj)]; exact hd0)

/-- A good nested tree's flat row is read by the program. -/
theorem flat_rd (ns : List TN) : ∀ (x : LX) (r : Bool) (d f n : Nat) (rest : List TN), depthX x r = d → d < f → f ≤ 31 → (r = true → f = 31) → (keysX x).length < 1000000000 → ns.drop n = flatX x n ++ rest → rdN ns f n = some (ofX x, d, n + sizeX x) := by
  refine LX.ind (fun x ih => ?_)
  intro r d f n rest hd hf hf31 hr hkl hdr
  obtain ⟨f, rfl⟩ : ∃ m, f = m + 1 := ⟨f - 1, by omega⟩
  have hdp : 0 ≤ depthX x r := by omega
  have ha := depth_arity x r hdp
  rw [flatX_mk] at hdr
  rw [ofX_mk, sizeX_mk]
  have hdd := depthX_mk x r
  cases hl : x.f0 with
  | true =>
    rw [hl] at ha hdr hdd
    simp only [if_true] at ha hdr hdd ⊢
    have hh := head_flat (by rw [hdr]; rfl : ns.drop n = _ :: rest)
    simp only [rdN, hh, if_true]
    have hgood : ¬ leafBad (30 - f) (⟨true, x.f1, [], (x.f1.length : Int)⟩ : TN) := by
      unfold leafBad
      simp only [List.length_nil]
      rintro (q | q | q | q)
      · omega
      · omega
      · exact q rfl
      · obtain ⟨q1, q2⟩ := q
        have hrf : r = false := by
          cases r with
          | false => rfl
          | true => have := hr rfl; omega
        rw [hrf] at hdd
        rw [if_pos (.inr ⟨by omega, by simp⟩)] at hdd
        rw [hrf] at hd
        omega
    rw [if_neg hgood]
    have hd0 : d = 0 := by
      split at hdd <;> omega
    rw [hd0]
  | false =>
    rw [hl] at ha hdr hdd
    simp only [Bool.false_eq_true, if_false] at ha hdr hdd ⊢
    have hkeys : (keysXL x.f2).length < 1000000000 := by rw [keysX_mk, hl] at hkl; simpa using hkl
    have hh := head_flat (by rw [hdr]; rfl : ns.drop n = _ :: (flatXL x.f2 ((n : Int) + 1) ++ rest))
    have hdx : depthX x r = depthXL x.f2 := by
      rw [hdd, if_neg (by rintro (q | q); omega; omega)]
    obtain ⟨d', hd'0, hd'1, hne, hall⟩ := depthXL_kids x.f2 (by rw [← hdx]; exact hdp)
    have hd2 : (d : Int) = d' + 1 := by rw [← hd, hdx, hd'1]
    obtain ⟨dn, hdn⟩ : ∃ dn : Nat, d' = dn := ⟨d'.toNat, by omega⟩
    subst hdn
    simp only [rdN, hh, Bool.false_eq_true, if_false]
    rw [if_neg (by unfold nodeBad; simp only [posX_len, sepsX_len]; omega)]
    have hk := rdKids_flat ns (rdN ns f) (sepsX x.f2) dn x.f2 0 [] 0 (n + 1) rest
      (fun y hy m rest' hm => ih y hy false dn f m rest' (hall y hy) (by omega) (by omega) (by simp) (by have := kid_bounds x y hl hy; omega) hm)
      (by
        have := drop_flat (a := [(⟨false, sepsX x.f2, posX x.f2 ((n : Int) + 1), ((keysXL x.f2).length : Int)⟩ : TN)]) (b := flatXL x.f2 ((n : Int) + 1) ++ rest) (by rw [hdr]; rfl)
        rw [List.length_singleton] at this
        rw [this]
        rfl)
      (by simp) (ofX_least_kid x.f2 dn (by omega) hall)
    rw [show (((n + 1 : Nat)) : Int) = (n : Int) + 1 by omega] at hk
    rw [hk, if_neg hne]
    simp only [List.nil_append, rdFin]
    have hc : cntL 0 (ofXL x.f2) = ((keysXL x.f2).length : Int) := by
      have hke := keysL_ofXL x.f2 (fun y _ => keys_ofX y)
      rw [cntL_keys (ofXL x.f2) 0 (by omega) (fun t _ => cnt_keys t) (by rw [hke]; omega), hke]
      omega
    rw [if_neg (by rw [hc]; simp)]
    have : dn + 1 = d := by omega
    rw [this]
    congr 3
    omega
end Go.Proofs.Ytnfaiblhjgmjgaa
/-
  What the program reads is a flat row of a good nested tree; the reference reads it too.
-/
namespace Go.Proofs.Ytnfaiblhjgmjgaa
open Go.RowKit Go.Proofs.YtnfaiblhjgmjgaaW.PrintWords

theorem nestKids_flat (ns : List TN) (rd : Nat → Option (LX × Nat)) :
    ∀ (ts : List T) (acc : List LX) (next : Nat) (rest : List TN), (∀ t ∈ ts, ∀ n rest, ns.drop n = flatX (toX t) n ++ rest → rd n = some (toX t, n + sizeX (toX t))) → ns.drop next = flatXL (toXL ts) next ++ rest →
      nestKids rd (posX (toXL ts) next) acc next = some (acc ++ toXL ts, next + sizeXL (toXL ts))
  | [], acc, next, rest, _, _ => by simp [toXL, posX, nestKids, sizeXL]
  | t :: ts, acc, next, rest, hrd, hdr => by
    have h1 : ns.drop next = flatX (toX t) next ++ (flatXL (toXL ts) ((next : Int) + sizeX (toX t)) ++ rest) := by rw [hdr]; simp [flatXL, toXL]
    have h2 := hrd t List.mem_cons_self next _ h1
    have h3 := drop_flat h1
    rw [flatX_len] at h3
    have e : ((next : Int) + sizeX (toX t)) = ((next + sizeX (toX t) : Nat) : Int) := by omega
    have h4 := nestKids_flat ns rd ts (acc ++ [toX t]) (next + sizeX (toX t)) rest (fun y hy => hrd y (List.mem_cons_of_mem _ hy)) (by rw [h3, e])
    simp only [toXL, posX, nestKids, ne_eq, not_true_eq_false, if_false, h2]
    rw [e, h4]
    simp [sizeXL, Nat.add_assoc]

theorem flat_nest (ns : List TN) : ∀ (t : T) (r : Bool) (d f n : Nat) (rest : List TN), depthX (toX t) r = d → d < f → ns.drop n = flatX (toX t) n ++ rest → nestN ns f n = some (toX t, n + sizeX (toX t)) := by
  refine T.ind (fun ks => ?_) (fun kids ih => ?_)
  · intro r d f n rest hd hf hdr
    obtain ⟨f, rfl⟩ : ∃ m, f = m + 1 := ⟨f - 1, by omega⟩
    have hh := head_flat (by rw [hdr]; rfl : ns.drop n = (⟨true, ks, [], (ks.length : Int)⟩ : TN) :: rest)
    simp [nestN, hh, toX, sizeX]
  · intro r d f n rest hd hf hdr
    obtain ⟨f, rfl⟩ : ∃ m, f = m + 1 := ⟨f - 1, by omega⟩
    have hdp : 0 ≤ depthX (toX (.node kids)) r := by omega
    have ha := depth_arity (toX (.node kids)) r hdp
    have hdd := depthX_mk (toX (.node kids)) r
    rw [flatX_mk] at hdr
    simp only [toX, Bool.false_eq_true, if_false] at ha hdd hdr hd
    have hdx : depthX (⟨false, [], toXL kids⟩ : LX) r = depthXL (toXL kids) := by
      rw [hdd, if_neg (by rintro (q | q); omega; omega)]
    obtain ⟨d', hd'0, hd'1, hne, hall⟩ := depthXL_kids (toXL kids) (by rw [← hdx, hd]; omega)
    have hh := head_flat (by rw [hdr]; rfl : ns.drop n = _ :: (flatXL (toXL kids) ((n : Int) + 1) ++ rest))
    have hmem : ∀ t ∈ kids, toX t ∈ toXL kids := by
      intro t ht
      obtain ⟨a, b, e⟩ := List.append_of_mem ht
      rw [e, toXL_append]
      simp [toXL]
    have hk := nestKids_flat ns (nestN ns f) kids [] (n + 1) rest (fun t ht m rest' hm => ih t ht false d'.toNat f m rest' (by rw [hall _ (hmem t ht)]; omega) (by omega) hm) (by
        have := drop_flat (a := [(⟨false, sepsX (toXL kids), posX (toXL kids) ((n : Int) + 1), ((keysXL (toXL kids)).length : Int)⟩ : TN)]) (b := flatXL (toXL kids) ((n : Int) + 1) ++ rest) (by rw [hdr]; rfl)
        rw [List.length_singleton] at this
        rw [this]
        rfl)
    rw [show (((n + 1 : Nat)) : Int) = (n : Int) + 1 by omega] at hk
    simp only [nestN, hh, Bool.false_eq_true, if_false, hk, nestFin, posX_len]
    rw [if_pos (by omega)]
    simp only [toX, sizeX_mk, Bool.false_eq_true, if_false, List.nil_append]
    congr 2
    omega
end Go.Proofs.Ytnfaiblhjgmjgaa
/-
  What the program reads is a flat row of a good nested tree.
-/
namespace Go.Proofs.Ytnfaiblhjgmjgaa
open Go.RowKit Go.Proofs.YtnfaiblhjgmjgaaW.PrintWords

theorem rdKids_inv (ns : List TN) (rd : Nat → Option (T × Nat × Nat)) (keys : List ByteArray)
    (hrd : ∀ n t lv nx, rd n = some (t, lv, nx) → ns.drop n = flatX (toX t) n ++ ns.drop nx ∧ nx = n + sizeX (toX t) ∧ depthX (toX t) false = (lv : Int) ∧ 2 ^ lv ≤ sizeX (toX t)) :
    ∀ (rest : List Int) (i : Nat) (acc : List T) (level next : Nat) (kids : List T) (lv' nx' : Nat), rdKids rd keys i rest acc level next = some (kids, lv', nx') →
      ∃ new : List T, kids = acc ++ new ∧ rest = posX (toXL new) next ∧ ns.drop next = flatXL (toXL new) next ++ ns.drop nx' ∧ nx' = next + sizeXL (toXL new) ∧ (∀ t ∈ new, depthX (toX t) false = (lv' : Int)) ∧ (0 < i → level = lv') ∧
        (∀ j t, new[j]? = some t → 0 < i + j → t.least = keys.getD (i + j - 1) ⟨#[]⟩) ∧ new.length * 2 ^ lv' ≤ sizeXL (toXL new)
  | [], i, acc, level, next, kids, lv', nx', h => by
    simp only [rdKids, Option.some.injEq, Prod.mk.injEq] at h
    obtain ⟨rfl, rfl, rfl⟩ := h
    exact ⟨[], by simp, by simp [toXL, posX], by simp [toXL, flatXL], by simp [toXL, sizeXL], by simp, fun _ => rfl, by simp, by simp⟩
  | a :: rest, i, acc, level, next, kids, lv', nx', h => by
    unfold rdKids at h
    split at h
    · simp at h
    · rename_i ha
      split at h
      · simp at h
      · rename_i k below nx2 hk
        split at h
        · simp at h
        · rename_i hc
          obtain ⟨p1, p2, p3, p4⟩ := hrd _ _ _ _ hk
          obtain ⟨new, q1, q2, q3, q4, q5, q6, q7, q8⟩ := rdKids_inv ns rd keys hrd rest (i + 1) (acc ++ [k]) below nx2 kids lv' nx' h
          have hbl : below = lv' := q6 (by omega)
          subst hbl
          have e : ((next : Int) + sizeX (toX k)) = (nx2 : Int) := by omega
          refine ⟨k :: new, by rw [q1]; simp, ?_, ?_, ?_, ?_, ?_, ?_, ?_⟩
          · simp only [toXL, posX]
            rw [e, ← q2]
            congr 1
            exact Decidable.byContradiction ha
          · simp only [toXL, flatXL]
            rw [e, List.append_assoc, ← q3]
            exact p1
          · simp only [toXL, sizeXL]
            omega
          · intro t ht
            rcases List.mem_cons.1 ht with rfl | ht
            · exact p3
            · exact q5 t ht
          · intro hi
            exact Decidable.byContradiction (fun q => hc ⟨hi, .inl (fun e => q e.symm)⟩)
          · intro j t hj h0
            cases j with
            | zero =>
              obtain rfl : k = t := by simpa using hj
              exact Classical.byContradiction (fun q => hc ⟨by omega, .inr q⟩)
            | succ j =>
              have := q7 j t hj (by omega)
              rw [this]
              congr 1
              omega
          · simp only [toXL, sizeXL, List.length_cons, Nat.add_mul, Nat.one_mul]
            omega

theorem seps_of (keys : List ByteArray) (new : List T) (lv : Nat) (hl : keys.length + 1 = new.length) (hd : ∀ t ∈ new, depthX (toX t) false = (lv : Int)) (hk : ∀ j t, new[j]? = some t → 0 < 0 + j → t.least = keys.getD (0 + j - 1) ⟨#[]⟩) : sepsX (toXL new) = keys := by
  have hget : ∀ (ts : List T) (j : Nat), (toXL ts)[j]? = (ts[j]?).map toX := by
    intro ts
    induction ts with
    | nil => intro j; simp [toXL]
    | cons t ts ih => intro j; cases j with
      | zero => simp [toXL]
      | succ j => simp [toXL, ih j]
  refine List.ext_getElem? (fun j => ?_)
  by_cases hj : j < keys.length
  · obtain ⟨t, ht⟩ : ∃ t, new[j + 1]? = some t := ⟨_, List.getElem?_eq_getElem (by omega)⟩
    have h1 := hk (j + 1) t ht (by omega)
    have h2 := sepsX_get (toXL new) (j + 1) (toX t) (by rw [hget, ht]; rfl) (by omega)
    have h3 := least_first t (by rw [hd t (List.mem_of_getElem? ht)]; omega)
    rw [keysX_toX, ← h3, h1] at h2
    have hs : j < (sepsX (toXL new)).length := by rw [sepsX_len, toXL_len]; omega
    have e : 0 + (j + 1) - 1 = j := by omega
    have e2 : j + 1 - 1 = j := by omega
    rw [e, e2] at h2
    rw [List.getElem?_eq_getElem hs, List.getElem?_eq_getElem hj]
    simp only [List.getD_eq_getElem?_getD, List.getElem?_eq_getElem hs, List.getElem?_eq_getElem hj, Option.getD_some] at h2
    rw [h2]
  · rw [List.getElem?_eq_none (by rw [sepsX_len, toXL_len]; omega), List.getElem?_eq_none (by omega)]
end Go.Proofs.Ytnfaiblhjgmjgaa
/-
  The reference and the program agree on which trees are valid.
-/
namespace Go.Proofs.Ytnfaiblhjgmjgaa
open Go.RowKit Go.Proofs.YtnfaiblhjgmjgaaW.PrintWords

theorem depthAll_of : ∀ (xs : List LX) (d : Int), (∀ y ∈ xs, depthX y false = d) → depthAll d xs = true
  | [], d, _ => by simp [depthAll]
  | x :: xs, d, h => by simp [depthAll, h x, depthAll_of xs d (fun y hy => h y (List.mem_cons_of_mem _ hy))]
theorem depthXL_all (xs : List LX) (d : Int) (h0 : 0 ≤ d) (hne : xs ≠ []) (h : ∀ y ∈ xs, depthX y false = d) : depthXL xs = d + 1 := by
  cases xs with
  | nil => exact absurd rfl hne
  | cons x xs =>
    have hx := h x List.mem_cons_self
    simp only [depthXL]
    rw [hx, depthAll_of xs d (fun y hy => h y (List.mem_cons_of_mem _ hy)), if_pos rfl, if_neg (by omega)]
theorem mem_toXL : ∀ (ts : List T) (x : LX), x ∈ toXL ts → ∃ t ∈ ts, x = toX t
  | [], x, h => by simp [toXL] at h
  | t :: ts, x, h => by
    simp only [toXL, List.mem_cons] at h
    rcases h with rfl | h
    · exact ⟨t, List.mem_cons_self, rfl⟩
    · obtain ⟨u, hu, e⟩ := mem_toXL ts x h
      exact ⟨u, List.mem_cons_of_mem _ hu, e⟩

theorem rd_flat (ns : List TN) (hns : ns.length ≤ 5000) : ∀ (f n : Nat) (t : T) (lv nx : Nat), f ≤ 31 → rdN ns f n = some (t, lv, nx) →
    ns.drop n = flatX (toX t) n ++ ns.drop nx ∧ nx = n + sizeX (toX t) ∧ depthX (toX t) true = (lv : Int) ∧ (f < 31 → depthX (toX t) false = (lv : Int)) ∧ 2 ^ lv ≤ sizeX (toX t)
  | 0, n, t, lv, nx, _, h => by simp [rdN] at h
  | f + 1, n, t, lv, nx, hf, h => by
    have hprop := rdN_props ns (f + 1) n t lv nx h
    unfold rdN at h
    split at h
    · simp at h
    · rename_i x hx
      have hlt : n < ns.length := (List.getElem?_eq_some_iff.1 hx).1
      have hdrop := drop_step ns n x hx
      split at h
      · rename_i hl
        split at h
        · simp at h
        · rename_i hb
          simp only [Option.some.injEq, Prod.mk.injEq] at h
          obtain ⟨rfl, rfl, rfl⟩ := h
          obtain ⟨g1, g2, g3, g4⟩ := leaf_good hb
          have ex : x = ⟨true, x.f1, [], (x.f1.length : Int)⟩ := by
            cases x with
            | mk a b c d =>
              simp only at hl g1 g3
              subst hl
              obtain rfl : c = [] := List.eq_nil_of_length_eq_zero (by omega)
              rw [g3]
          refine ⟨?_, by simp [toX, sizeX], ?_, ?_, by simp [toX, sizeX]⟩
          · rw [hdrop]
            simp only [toX, flatX, if_true, List.singleton_append]
            rw [← ex]
          · rw [depthX_mk]
            simp only [toX, if_true]
            rw [if_neg (by rintro (q | q); omega; exact q.2 ⟨trivial, trivial⟩)]
            rfl
          · intro h31
            rw [depthX_mk]
            simp only [toX, if_true]
            have := g4 (by omega)
            rw [if_neg (by rintro (q | q); omega; omega)]
            rfl
      · rename_i hl
        split at h
        · simp at h
        · rename_i hb
          obtain ⟨g1, g2, g3⟩ := node_good hb
          unfold rdFin at h
          split at h
          · simp at h
          · rename_i kids level nx2 hk
            split at h
            · simp at h
            · rename_i hc
              simp only [Option.some.injEq, Prod.mk.injEq] at h
              obtain ⟨rfl, rfl, rfl⟩ := h
              obtain ⟨new, q1, q2, q3, q4, q5, _, q7, q8⟩ := rdKids_inv ns (rdN ns f) x.f1 (fun n t lv nx hh => by
                have := rd_flat ns hns f n t lv nx (by omega) hh
                exact ⟨this.1, this.2.1, this.2.2.2.1 (by omega), this.2.2.2.2⟩) _ _ _ _ _ _ _ _ hk
              rw [List.nil_append] at q1
              subst q1
              have hlen : kids.length = x.f2.length := by rw [q2, posX_len, toXL_len]
              have hall : ∀ y ∈ toXL kids, depthX y false = (level : Int) := by
                intro y hy
                obtain ⟨t, ht, rfl⟩ := mem_toXL kids y hy
                exact q5 t ht
              have hne : toXL kids ≠ [] := by
                intro e
                have := congrArg List.length e
                rw [toXL_len, List.length_nil] at this
                omega
              have hdx := depthXL_all (toXL kids) level (by omega) hne hall
              have hkl := keysXL_le (toXL kids) (fun y hy => keys_le y false (by rw [hall y hy]; omega))
              have hnx := hprop.2.1
              have hke := keysXL_toXL kids (fun t _ => keysX_toX t)
              have hcnt : cntL 0 kids = ((keysXL (toXL kids)).length : Int) := by
                rw [cntL_keys kids 0 (by omega) (fun t _ => cnt_keys t) (by rw [← hke]; omega), hke]
                omega
              have hseps := seps_of x.f1 kids level (by omega) q5 q7
              have ex : x = ⟨false, sepsX (toXL kids), posX (toXL kids) ((n : Int) + 1), ((keysXL (toXL kids)).length : Int)⟩ := by
                rw [hseps, ← hcnt]
                have hc2 : cntL 0 kids = x.f3 := Decidable.byContradiction hc
                rw [hc2]
                rw [show ((n : Int) + 1) = ((n + 1 : Nat) : Int) by omega, ← q2]
                cases x with
                | mk a b c d =>
                  simp only at hl
                  have : a = false := by cases a <;> simp_all
                  subst this
                  rfl
              have hd : ∀ r, depthX (toX (.node kids)) r = ((level + 1 : Nat) : Int) := by
                intro r
                rw [depthX_mk]
                simp only [toX, Bool.false_eq_true, if_false]
                rw [toXL_len, if_neg (by rintro (q | q); omega; omega), hdx]
                omega
              have hsz : sizeX (toX (.node kids)) = sizeXL (toXL kids) + 1 := by simp [toX, sizeX]
              refine ⟨?_, by rw [hsz]; omega, hd true, fun _ => hd false, ?_⟩
              · rw [hdrop, q3, flatX_mk]
                simp only [toX, Bool.false_eq_true, if_false]
                rw [show (((n + 1 : Nat)) : Int) = (n : Int) + 1 by omega, List.cons_append]
                congr 1
              · rw [hsz, Nat.pow_succ]
                have : 2 * 2 ^ level ≤ kids.length * 2 ^ level := Nat.mul_le_mul_right _ (by omega)
                omega

theorem spec_to_root (ns : List TN) (h : (specX ns).isSome = true) : (rootP ns).isSome = true := by
  unfold specX at h
  split at h
  · simp at h
  · rename_i hlen
    split at h
    · simp at h
    · rename_i x nx hn
      split at h
      · simp at h
      · rename_i hd
        split at h
        · rename_i ho
          split at h
          · rename_i hf
            have hnx : nx = ns.length := Decidable.byContradiction (fun q => hd (.inl q))
            have hd0 : ¬ depthX x true < 0 := fun q => hd (.inr q)
            have hsz := nestN_size ns 21 0 x nx hn
            have hdp := nestN_depth ns 21 0 x nx true hn
            have hkl := keys_le x true (by omega)
            have hr := flat_rd ns x true (depthX x true).toNat 31 0 [] (by omega) (by omega) (by omega) (fun _ => rfl) (by omega) (by rw [List.drop_zero, List.append_nil]; exact hf.symm)
            unfold rootP
            rw [if_neg (by omega), hr]
            simp only
            rw [if_neg (by omega), keys_ofX, if_pos ho]
            rfl
          · simp at h
        · simp at h
theorem root_to_spec (ns : List TN) (h : (rootP ns).isSome = true) : (specX ns).isSome = true := by
  unfold rootP at h
  split at h
  · simp at h
  · rename_i hlen
    split at h
    · simp at h
    · rename_i t lv nx hn
      split at h
      · simp at h
      · rename_i hnx
        split at h
        · rename_i ho
          have hnx2 : nx = ns.length := Decidable.byContradiction hnx
          obtain ⟨p1, p2, p3, _, p5⟩ := rd_flat ns (by omega) 31 0 t lv nx (by omega) hn
          have hlv : lv < 21 := by
            refine Decidable.byContradiction (fun q => ?_)
            have := Nat.pow_le_pow_right (show 0 < 2 by omega) (show 21 ≤ lv by omega)
            omega
          have hst := flat_nest ns t true lv 21 0 (ns.drop nx) p3 (by omega) p1
          have hs1 : 1 ≤ sizeX (toX t) := by rw [sizeX_mk]; split <;> omega
          have hfl : flatX (toX t) 0 = ns := by
            have e : ns.drop nx = [] := List.drop_eq_nil_of_le (by omega)
            rw [e, List.append_nil, List.drop_zero] at p1
            exact p1.symm
          unfold specX
          rw [if_neg (by omega), hst]
          simp only
          rw [if_neg (by omega), keysX_toX, if_pos ho, if_pos hfl]
          rfl
        · simp at h
theorem specX_root (ns : List TN) : (specX ns).isSome = (rootP ns).isSome := by
  cases h1 : (specX ns).isSome with
  | true => rw [spec_to_root ns h1]
  | false =>
    cases h2 : (rootP ns).isSome with
    | false => rfl
    | true => rw [root_to_spec ns h2] at h1; cases h1
end Go.Proofs.Ytnfaiblhjgmjgaa
