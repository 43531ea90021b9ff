/-
  The printed comparison of two lists of nodes: true when they are the same list.
-/
import Derived.Test.YtnfaiblhjgmjgaaPureX
namespace Go.Proofs.Ytnfaiblhjgmjgaa
open Go.RowKit Go.Proofs.YtnfaiblhjgmjgaaW.PrintWords

theorem bytes_same (a b : ByteArray) : a.toList = b.toList ↔ a = b := by
  have h := bs_eq a b
  constructor
  · intro e
    rw [e] at h
    simpa using h.symm
  · rintro rfl
    rfl
theorem rdTN (xs : List TN) (i : Nat) (x : TN) (h : xs[i]? = some x) : PFnTree.rd_T89 xs (i : Int) = x := by simp [PFnTree.rd_T89, List.getD_eq_getElem?_getD, h]
theorem rd_nat (xs : List Int) (i : Nat) (x : Int) (h : xs[i]? = some x) : rd xs (i : Int) = x := by simp [rd, List.getD_eq_getElem?_getD, h]
theorem rdOf_nat (xs : List ByteArray) (i : Nat) (x : ByteArray) (h : xs[i]? = some x) : rdOf ByteArray.empty xs (i : Int) = x := by simp [rdOf, List.getD_eq_getElem?_getD, h]

theorem wrap_succ (j : Nat) (h : j < 8796093022208) : wrap64 ((j : Int) + 1) = ((j + 1 : Nat) : Int) := by rw [wrap_small (by omega) (by omega)]; omega

theorem same_l2 (a b : List TN) (i : Nat) (x y : TN) (hx : a[i]? = some x) (hy : b[i]? = some y) (hlen : x.f2.length = y.f2.length) (hsm : x.f2.length < 8796093022208) (r : Bool) (hr : Ev (fun k => PFnTree.spec_l3SameNodes.l0 k a b (wrap64 ((i : Int) + 1))) r) :
    ∀ (d j : Nat), x.f2.length - j = d → j ≤ x.f2.length → ∀ e : Bool, (e = true ↔ (x.f2.drop j = y.f2.drop j ∧ r = true)) → Ev (fun k => PFnTree.spec_l3SameNodes.l2 k a b (i : Int) (j : Int)) e := by
  have hia : i < a.length := (List.getElem?_eq_some_iff.1 hx).1
  have hib : i < b.length := (List.getElem?_eq_some_iff.1 hy).1
  have ra := rdTN a i x hx
  have rb := rdTN b i y hy
  intro d
  induction d with
  | zero =>
    intro j hd hj e he'
    have he := Aside0.mk he'
    clear he'
    have e1 : x.f2.drop j = [] := List.drop_eq_nil_of_le (by omega)
    have e2 : y.f2.drop j = [] := List.drop_eq_nil_of_le (by omega)
    have : e = r := by
      have q := he.out
      rw [e1, e2] at q
      cases e <;> cases r <;> simp at q ⊢
    subst this
    refine Ev.step (f := fun k => PFnTree.spec_l3SameNodes.l0 k a b (wrap64 ((i : Int) + 1))) (fun k => ?_) hr
    simp only [PFnTree.spec_l3SameNodes.l2, ra]
    rw [if_pos (by omega), if_pos (by omega), if_neg (by omega)]
  | succ d ih =>
    intro j hd hj e he'
    have he := Aside0.mk he'
    clear he'
    obtain ⟨p, hp⟩ : ∃ z, x.f2[j]? = some z := ⟨_, List.getElem?_eq_getElem (by omega)⟩
    obtain ⟨q, hq⟩ : ∃ z, y.f2[j]? = some z := ⟨_, List.getElem?_eq_getElem (by omega)⟩
    replace he := Aside0.mk (by have q' := he.out; rw [drop_step _ j p hp, drop_step _ j q hq] at q'; exact q')
    by_cases hpq : p = q
    · subst hpq
      refine Ev.step (f := fun k => PFnTree.spec_l3SameNodes.l2 k a b (i : Int) ((j + 1 : Nat) : Int)) (fun k => ?_) (ih (j + 1) (by omega) (by omega) e (by simpa using he.out))
      simp only [PFnTree.spec_l3SameNodes.l2, ra, rb]
      rw [if_pos (by omega), if_pos (by omega), if_pos (by omega), if_pos (by omega), if_pos (by omega), if_pos (by omega), rd_nat _ _ _ hp, rd_nat _ _ _ hq, if_pos rfl, wrap_succ j (by omega)]
    · have : e = false := by have he := he.out; cases e <;> simp_all
      subst this
      refine ⟨1, fun k hk => ?_⟩
      obtain ⟨k, rfl⟩ : ∃ m, k = m + 1 := ⟨k - 1, by omega⟩
      simp only [PFnTree.spec_l3SameNodes.l2, ra, rb]
      rw [if_pos (by omega), if_pos (by omega), if_pos (by omega), if_pos (by omega), if_pos (by omega), if_pos (by omega), rd_nat _ _ _ hp, rd_nat _ _ _ hq, if_neg hpq]

theorem same_l1 (a b : List TN) (i : Nat) (x y : TN) (hx : a[i]? = some x) (hy : b[i]? = some y) (hlen : x.f2.length = y.f2.length) (hsm : x.f2.length < 8796093022208) (hlen1 : x.f1.length = y.f1.length) (hsm1 : x.f1.length < 8796093022208) (r : Bool) (hr : Ev (fun k => PFnTree.spec_l3SameNodes.l0 k a b (wrap64 ((i : Int) + 1))) r) :
    ∀ (d j : Nat), x.f1.length - j = d → j ≤ x.f1.length → ∀ e : Bool, (e = true ↔ (x.f1.drop j = y.f1.drop j ∧ x.f2 = y.f2 ∧ r = true)) → Ev (fun k => PFnTree.spec_l3SameNodes.l1 k a b (i : Int) (j : Int)) e := by
  have hia : i < a.length := (List.getElem?_eq_some_iff.1 hx).1
  have hib : i < b.length := (List.getElem?_eq_some_iff.1 hy).1
  have ra := rdTN a i x hx
  have rb := rdTN b i y hy
  intro d
  induction d with
  | zero =>
    intro j hd hj e he'
    have he := Aside0.mk he'
    clear he'
    have e1 : x.f1.drop j = [] := List.drop_eq_nil_of_le (by omega)
    have e2 : y.f1.drop j = [] := List.drop_eq_nil_of_le (by omega)
    replace he := Aside0.mk (by have q := he.out; rw [e1, e2] at q; exact q)
    refine Ev.step (f := fun k => PFnTree.spec_l3SameNodes.l2 k a b (i : Int) ((0 : Nat) : Int)) (fun k => ?_) (same_l2 a b i x y hx hy hlen hsm r hr _ 0 rfl (by omega) e (by simpa using he.out))
    simp only [PFnTree.spec_l3SameNodes.l1, ra]
    rw [if_pos (by omega), if_pos (by omega), if_neg (by omega)]
    rfl
  | succ d ih =>
    intro j hd hj e he'
    have he := Aside0.mk he'
    clear he'
    obtain ⟨p, hp⟩ : ∃ z, x.f1[j]? = some z := ⟨_, List.getElem?_eq_getElem (by omega)⟩
    obtain ⟨q, hq⟩ : ∃ z, y.f1[j]? = some z := ⟨_, List.getElem?_eq_getElem (by omega)⟩
    replace he := Aside0.mk (by have q' := he.out; rw [drop_step _ j p hp, drop_step _ j q hq] at q'; exact q')
    by_cases hpq : p = q
    · subst hpq
      refine Ev.step (f := fun k => PFnTree.spec_l3SameNodes.l1 k a b (i : Int) ((j + 1 : Nat) : Int)) (fun k => ?_) (ih (j + 1) (by omega) (by omega) e (by simpa using he.out))
      simp only [PFnTree.spec_l3SameNodes.l1, ra, rb]
      rw [if_pos (by omega), if_pos (by omega), if_pos (by omega), if_pos (by omega), if_pos (by omega), if_pos (by omega), rdOf_nat _ _ _ hp, rdOf_nat _ _ _ hq, if_pos rfl, wrap_succ j (by omega)]
    · have : e = false := by have he := he.out; cases e <;> simp_all
      subst this
      refine ⟨1, fun k hk => ?_⟩
      obtain ⟨k, rfl⟩ : ∃ m, k = m + 1 := ⟨k - 1, by omega⟩
      simp only [PFnTree.spec_l3SameNodes.l1, ra, rb]
      rw [if_pos (by omega), if_pos (by omega), if_pos (by omega), if_pos (by omega), if_pos (by omega), if_pos (by omega), rdOf_nat _ _ _ hp, rdOf_nat _ _ _ hq, if_neg (fun h => hpq ((bytes_same p q).1 h))]

theorem sameNodes_ev (a b : List TN) (hal : a.length < 8796093022208) (hs : ∀ x ∈ a, x.f1.length < 8796093022208 ∧ x.f2.length < 8796093022208) (e : Bool) (he' : e = true ↔ a = b) : Ev (fun k => PFnTree.spec_l3SameNodes.f k a b) e := by
  have he := Aside0.mk he'
  clear he'
  have nodeEq : ∀ x y : TN, x = y ↔ (x.f0 = y.f0 ∧ x.f1 = y.f1 ∧ x.f2 = y.f2 ∧ x.f3 = y.f3) := by
    rintro ⟨p0, p1, p2, p3⟩ ⟨q0, q1, q2, q3⟩
    simp
  by_cases hlen : a.length = b.length
  · have loop : ∀ (d i : Nat), a.length - i = d → i ≤ a.length → ∀ e : Bool, (e = true ↔ a.drop i = b.drop i) → Ev (fun k => PFnTree.spec_l3SameNodes.l0 k a b (i : Int)) e := by
      intro d
      induction d with
      | zero =>
        intro i hd hi e he'
        have he := Aside0.mk he'
        clear he'
        have e1 : a.drop i = [] := List.drop_eq_nil_of_le (by omega)
        have e2 : b.drop i = [] := List.drop_eq_nil_of_le (by omega)
        have : e = true := he.out.2 (by rw [e1, e2])
        subst this
        refine ⟨1, fun k hk => ?_⟩
        obtain ⟨k, rfl⟩ : ∃ m, k = m + 1 := ⟨k - 1, by omega⟩
        simp only [PFnTree.spec_l3SameNodes.l0]
        rw [if_neg (by omega)]
      | succ d ih =>
        intro i hd hi e he'
        have he := Aside0.mk he'
        clear he'
        obtain ⟨x, hx⟩ : ∃ z, a[i]? = some z := ⟨_, List.getElem?_eq_getElem (by omega)⟩
        obtain ⟨y, hy⟩ : ∃ z, b[i]? = some z := ⟨_, List.getElem?_eq_getElem (by omega)⟩
        have ra := rdTN a i x hx
        have rb := rdTN b i y hy
        obtain ⟨s1, s2⟩ := hs x (List.mem_of_getElem? hx)
        replace he := Aside0.mk (by have q' := he.out; rw [drop_step _ i x hx, drop_step _ i y hy] at q'; exact q')
        have bad : ∀ e : Bool, e = false → Ev (fun k => PFnTree.spec_l3SameNodes.j1 k a b (i : Int) true) e := by
          rintro _ rfl
          refine ⟨1, fun k hk => ?_⟩
          obtain ⟨k, rfl⟩ : ∃ m, k = m + 1 := ⟨k - 1, by omega⟩
          simp [PFnTree.spec_l3SameNodes.j1]
        have no : x ≠ y → e = false := by
          intro h
          cases e with
          | false => rfl
          | true => exact absurd (List.cons.inj (he.out.1 rfl)).1 h
        have st : ∀ k, PFnTree.spec_l3SameNodes.l0 (k + 1) a b (i : Int) = if (x.f0 != y.f0) = true then PFnTree.spec_l3SameNodes.j1 k a b (i : Int) true else if x.f3 = y.f3 then (if (x.f1.length : Int) = (y.f1.length : Int) then PFnTree.spec_l3SameNodes.j1 k a b (i : Int) ((x.f2.length : Int) != (y.f2.length : Int)) else PFnTree.spec_l3SameNodes.j1 k a b (i : Int) true) else PFnTree.spec_l3SameNodes.j1 k a b (i : Int) true := by
          intro k
          simp only [PFnTree.spec_l3SameNodes.l0, ra, rb]
          rw [if_pos (by omega), if_pos (by omega), if_pos (by omega)]
        refine Ev.step st ?_
        by_cases c0 : x.f0 = y.f0
        · simp only [c0, bne_self_eq_false, Bool.false_eq_true, if_false]
          by_cases c3 : x.f3 = y.f3
          · simp only [if_pos c3]
            by_cases c1 : x.f1.length = y.f1.length
            · simp only [if_pos (show (x.f1.length : Int) = (y.f1.length : Int) by omega)]
              by_cases c2 : x.f2.length = y.f2.length
              · rw [show ((x.f2.length : Int) != (y.f2.length : Int)) = false by simp [c2]]
                classical
                have hr := ih (i + 1) (by omega) (by omega) (decide (a.drop (i + 1) = b.drop (i + 1))) (by simp)
                rw [← wrap_succ i (by omega)] at hr
                have g := same_l1 a b i x y hx hy c2 s2 c1 s1 _ hr _ 0 rfl (by omega) e (by
                  rw [he.out]
                  simp only [List.cons.injEq, List.drop_zero, decide_eq_true_eq, nodeEq x y]
                  constructor
                  · rintro ⟨⟨_, h1, h2, _⟩, h⟩; exact ⟨h1, h2, h⟩
                  · rintro ⟨h1, h2, h⟩; exact ⟨⟨c0, h1, h2, c3⟩, h⟩)
                refine Ev.step (f := fun k => PFnTree.spec_l3SameNodes.l1 k a b (i : Int) ((0 : Nat) : Int)) (fun k => ?_) g
                simp [PFnTree.spec_l3SameNodes.j1]
              · rw [show ((x.f2.length : Int) != (y.f2.length : Int)) = true by simp; omega]
                exact bad e (no (fun h => c2 (by rw [h])))
            · simp only [if_neg (show ¬ (x.f1.length : Int) = (y.f1.length : Int) by omega)]
              exact bad e (no (fun h => c1 (by rw [h])))
          · simp only [if_neg c3]
            exact bad e (no (fun h => c3 (by rw [h])))
        · have : (x.f0 != y.f0) = true := by simpa using c0
          simp only [this, if_true]
          exact bad e (no (fun h => c0 (by rw [h])))
    have g := loop _ 0 rfl (by omega) e (by simpa using he.out)
    obtain ⟨K, h⟩ := g
    refine ⟨K, fun k hk => ?_⟩
    simp only [PFnTree.spec_l3SameNodes.f]
    rw [if_pos (by omega)]
    exact h k hk
  · have : e = false := by
      cases e with
      | false => rfl
      | true => exact absurd (congrArg List.length (he.out.1 rfl)) hlen
    subst this
    refine ⟨0, fun k hk => ?_⟩
    simp only [PFnTree.spec_l3SameNodes.f]
    rw [if_neg (by omega)]
end Go.Proofs.Ytnfaiblhjgmjgaa
