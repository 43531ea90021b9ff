/-
  The reference's nested trees as values: keys, sizes, depths, nodes; what the printed functions come to.
-/
import Derived.Test.YtnfaiblhjgmjgaaNest
import Derived.Test.YtnfaiblhjgmjgaaPFnTreex1
import Derived.Test.YtnfaiblhjgmjgaaPFnTreex2
namespace Go.Proofs.Ytnfaiblhjgmjgaa
open Go.RowKit Go.Proofs.YtnfaiblhjgmjgaaW.PrintWords

mutual
def keysX : LX → List ByteArray
  | ⟨l, ks, kids⟩ => if l then ks else keysXL kids
def keysXL : List LX → List ByteArray
  | [] => []
  | x :: xs => keysX x ++ keysXL xs
end
mutual
def sizeX : LX → Nat
  | ⟨l, _, kids⟩ => if l then 1 else sizeXL kids + 1
def sizeXL : List LX → Nat
  | [] => 0
  | x :: xs => sizeX x + sizeXL xs
end
def posX : List LX → Int → List Int
  | [], _ => []
  | x :: xs, a => a :: posX xs (a + sizeX x)
def sepsX : List LX → List ByteArray
  | [] => []
  | _ :: xs => xs.map (fun x => (keysX x).headD ⟨#[]⟩)
mutual
def flatX : LX → Int → List TN
  | ⟨l, ks, kids⟩, a => if l then [⟨true, ks, [], ks.length⟩] else ⟨false, sepsX kids, posX kids (a + 1), (keysXL kids).length⟩ :: flatXL kids (a + 1)
def flatXL : List LX → Int → List TN
  | [], _ => []
  | x :: xs, a => flatX x a ++ flatXL xs (a + sizeX x)
end
mutual
/-- The depth as the reference reckons it: -1 where the leaves aren't equally deep or a node is too full or too empty. -/
def depthX : LX → Bool → Int
  | ⟨l, ks, kids⟩, root =>
    let n : Int := if l then ks.length else kids.length
    if n > 4 ∨ (n < 2 ∧ ¬ (root = true ∧ l = true)) then -1 else if l then 0 else depthXL kids
/-- Of the children: one more than theirs, where they agree. -/
def depthXL : List LX → Int
  | [] => -1
  | x :: xs => let d := depthX x false; if depthAll d xs then (if d < 0 then -1 else d + 1) else -1
def depthAll : Int → List LX → Bool
  | _, [] => true
  | d, x :: xs => decide (depthX x false = d) && depthAll d xs
end

theorem keysX_mk (x : LX) : keysX x = if x.f0 then x.f1 else keysXL x.f2 := by cases x; simp [keysX]
theorem sizeX_mk (x : LX) : sizeX x = if x.f0 then 1 else sizeXL x.f2 + 1 := by cases x; simp [sizeX]
theorem keysXL_append : ∀ (a b : List LX), keysXL (a ++ b) = keysXL a ++ keysXL b
  | [], b => by simp [keysXL]
  | x :: a, b => by simp [keysXL, keysXL_append a b]
theorem sizeXL_append : ∀ (a b : List LX), sizeXL (a ++ b) = sizeXL a + sizeXL b
  | [], b => by simp [sizeXL]
  | x :: a, b => by simp [sizeXL, sizeXL_append a b]; omega
theorem LX.ind {P : LX → Prop} (h : ∀ x : LX, (∀ k ∈ x.f2, P k) → P x) : ∀ x, P x := by
  intro x
  refine PFnTree.S53.rec (motive_1 := P) (motive_2 := fun l => ∀ k ∈ l, P k) ?_ ?_ ?_ x
  · intro l ks kids ih
    exact h ⟨l, ks, kids⟩ ih
  · intro k hk
    simp at hk
  · intro x xs h1 h2 k hk
    rcases List.mem_cons.1 hk with rfl | hk
    · exact h1
    · exact h2 k hk

theorem wrap_small {i : Int} (h : 0 ≤ i) (h2 : i < 9223372036854775807) : wrap64 (i + 1) = i + 1 := by unfold wrap64; omega
theorem rdLX (xs : List LX) (i : Nat) (x : LX) (h : xs[i]? = some x) : PFnTree.rd_T53 xs (i : Int) = x := by simp [PFnTree.rd_T53, List.getD_eq_getElem?_getD, h]

/-- The printed l3Keys. -/
theorem l3Keys_ev : ∀ x : LX, (keysX x).length < 8796093022208 → sizeX x < 8796093022208 → Ev (fun k => PFnTree.spec_l3Keys.f k x.f0 x.f1 x.f2) (keysX x) := by
  refine LX.ind (fun x ih => ?_)
  intro hlen hsz
  rw [keysX_mk] at hlen ⊢
  rw [sizeX_mk] at hsz
  cases hl : x.f0 with
  | true =>
    rw [hl] at hlen
    simp only [if_true] at hlen ⊢
    refine ⟨1, fun k hk => ?_⟩
    obtain ⟨k, rfl⟩ : ∃ m, k = m + 1 := ⟨k - 1, by omega⟩
    simp only [PFnTree.spec_l3Keys.f, if_true, Option.bind_some, List.length_nil, List.nil_append]
    rw [if_pos (by omega)]
  | false =>
    rw [hl] at hlen hsz
    simp only [Bool.false_eq_true, if_false] at hlen hsz ⊢
    have hkl : ∀ (l : List LX), l.length ≤ sizeXL l := by
      intro l
      induction l with
      | nil => simp
      | cons a l ih2 => simp only [List.length_cons, sizeXL]; have : 1 ≤ sizeX a := by rw [sizeX_mk]; split <;> omega
                        omega
    have hx2 := hkl x.f2
    have key : ∀ (d i : Nat), x.f2.length - i = d → i ≤ x.f2.length → Ev (fun k => PFnTree.spec_l3Keys.l0 k (keysXL (x.f2.take i)) (i : Int) false x.f1 x.f2) (keysXL x.f2) := by
      intro d
      induction d with
      | zero =>
        intro i hd hi
        have e : x.f2.take i = x.f2 := List.take_of_length_le (by omega)
        refine ⟨1, fun k hk => ?_⟩
        obtain ⟨k, rfl⟩ : ∃ m, k = m + 1 := ⟨k - 1, by omega⟩
        simp only [PFnTree.spec_l3Keys.l0]
        rw [if_neg (by omega), e]
      | succ d ihd =>
        intro i hd hi
        obtain ⟨y, hy⟩ : ∃ y, x.f2[i]? = some y := ⟨_, List.getElem?_eq_getElem (by omega)⟩
        have hsplit : x.f2 = x.f2.take i ++ y :: x.f2.drop (i + 1) := by rw [← drop_step x.f2 i y hy, List.take_append_drop]
        have hk2 : (keysXL x.f2).length = (keysXL (x.f2.take i)).length + ((keysX y).length + (keysXL (x.f2.drop (i + 1))).length) := by
          conv => lhs; rw [hsplit]
          simp [keysXL_append, keysXL]
        have hs2 : sizeXL x.f2 = sizeXL (x.f2.take i) + (sizeX y + sizeXL (x.f2.drop (i + 1))) := by
          conv => lhs; rw [hsplit]
          simp [sizeXL_append, sizeXL]
        obtain ⟨K1, h1⟩ := ih y (List.mem_of_getElem? hy) (by omega) (by omega)
        obtain ⟨K2, h2⟩ := ihd (i + 1) (by omega) (by omega)
        refine ⟨max K1 K2 + 1, fun k hk => ?_⟩
        obtain ⟨k, rfl⟩ : ∃ m, k = m + 1 := ⟨k - 1, by omega⟩
        have g1 := h1 k (by omega)
        have g2 := h2 k (by omega)
        simp only [PFnTree.spec_l3Keys.l0]
        rw [if_pos (by omega), if_pos (by omega), rdLX x.f2 i y hy]
        simp only at g1
        rw [g1]
        simp only [Option.bind_some]
        rw [if_pos (by omega), wrap_small (by omega) (by omega)]
        have e2 : keysXL (x.f2.take (i + 1)) = keysXL (x.f2.take i) ++ keysX y := by
          rw [List.take_add_one, hy]
          simp [keysXL_append, keysXL]
        rw [← e2]
        have e3 : ((i : Int) + 1) = ((i + 1 : Nat) : Int) := by omega
        rw [e3]
        exact g2
    obtain ⟨K, h⟩ := key x.f2.length 0 (by omega) (by omega)
    refine ⟨K + 1, fun k hk => ?_⟩
    obtain ⟨k, rfl⟩ : ∃ m, k = m + 1 := ⟨k - 1, by omega⟩
    simp only [PFnTree.spec_l3Keys.f, Bool.false_eq_true, if_false]
    have := h k (by omega)
    simpa [keysXL] using this

theorem depthX_mk (x : LX) (r : Bool) : depthX x r = let n : Int := if x.f0 then x.f1.length else x.f2.length
    if n > 4 ∨ (n < 2 ∧ ¬ (r = true ∧ x.f0 = true)) then -1 else if x.f0 then 0 else depthXL x.f2 := by cases x; simp [depthX]
theorem depthX_bd : ∀ x : LX, ∀ r, -1 ≤ depthX x r ∧ depthX x r ≤ sizeX x := by
  refine LX.ind (fun x ih => ?_)
  intro r
  rw [depthX_mk, sizeX_mk]
  dsimp only
  split
  · split <;> omega
  · split
    · omega
    · cases h : x.f2 with
      | nil => simp only [depthXL]; omega
      | cons y ys =>
        have := ih y (by rw [h]; exact List.mem_cons_self) false
        simp only [depthXL, sizeXL]
        split
        · split <;> omega
        · omega
theorem l3Depth_ev : ∀ x : LX, sizeX x < 8796093022208 → ∀ r : Bool, Ev (fun k => PFnTree.spec_l3Depth.f k x.f0 x.f1 x.f2 r) (depthX x r) := by
  refine LX.ind (fun x ih => ?_)
  intro hsz r
  have hsz0 := hsz
  rw [sizeX_mk] at hsz
  -- the part behind the sizes
  have key : ∀ bad : Bool, (bad = false → x.f0 = false → 2 ≤ x.f2.length) → Ev (fun k => PFnTree.spec_l3Depth.j0 k bad x.f0 x.f1 x.f2) (if bad then -1 else if x.f0 then 0 else depthXL x.f2) := by
    intro bad hbad
    cases bad with
    | true =>
      refine ⟨1, fun k hk => ?_⟩
      obtain ⟨k, rfl⟩ : ∃ m, k = m + 1 := ⟨k - 1, by omega⟩
      simp [PFnTree.spec_l3Depth.j0]
    | false =>
      cases hl : x.f0 with
      | true =>
        refine ⟨1, fun k hk => ?_⟩
        obtain ⟨k, rfl⟩ : ∃ m, k = m + 1 := ⟨k - 1, by omega⟩
        simp [PFnTree.spec_l3Depth.j0]
      | false =>
        have hn := hbad rfl hl
        rw [hl] at hsz
        simp only [Bool.false_eq_true, if_false] at hsz ⊢
        have hmem : ∀ y ∈ x.f2, sizeX y ≤ sizeXL x.f2 := by
          intro y hy
          obtain ⟨a, b, e⟩ := List.append_of_mem hy
          rw [e, sizeXL_append]
          simp only [sizeXL]
          omega
        have hkl : ∀ (l : List LX), l.length ≤ sizeXL l := by
          intro l
          induction l with
          | nil => simp
          | cons a l ih2 =>
            have : 1 ≤ sizeX a := by rw [sizeX_mk]; split <;> omega
            simp only [List.length_cons, sizeXL]
            omega
        have hx2 := hkl x.f2
        cases hf2 : x.f2 with
        | nil => rw [hf2] at hn; simp at hn
        | cons y ys =>
          have hy : x.f2[0]? = some y := by rw [hf2]; rfl
          have hbd := depthX_bd y false
          have hsy := hmem y (List.mem_of_getElem? hy)
          have loop : ∀ (d i : Nat), x.f2.length - i = d → i ≤ x.f2.length → Ev (fun k => PFnTree.spec_l3Depth.l0 k (depthX y false) (i : Int) false x.f1 x.f2) (if depthAll (depthX y false) (x.f2.drop i) then (if depthX y false < 0 then -1 else depthX y false + 1) else -1) := by
            intro d
            induction d with
            | zero =>
              intro i hd hi
              have e : x.f2.drop i = [] := List.drop_eq_nil_of_le (by omega)
              refine ⟨1, fun k hk => ?_⟩
              obtain ⟨k, rfl⟩ : ∃ m, k = m + 1 := ⟨k - 1, by omega⟩
              simp only [PFnTree.spec_l3Depth.l0]
              rw [if_neg (by omega), e]
              simp only [depthAll, if_true]
              split
              · rfl
              · rw [wrap_small (by omega) (by omega)]
            | succ d ihd =>
              intro i hd hi
              obtain ⟨z, hz⟩ : ∃ z, x.f2[i]? = some z := ⟨_, List.getElem?_eq_getElem (by omega)⟩
              have hsz2 := hmem z (List.mem_of_getElem? hz)
              obtain ⟨K1, h1⟩ := ih z (List.mem_of_getElem? hz) (by omega) false
              obtain ⟨K2, h2⟩ := ihd (i + 1) (by omega) (by omega)
              refine ⟨max K1 K2 + 1, fun k hk => ?_⟩
              obtain ⟨k, rfl⟩ : ∃ m, k = m + 1 := ⟨k - 1, by omega⟩
              have g1 := h1 k (by omega)
              have g2 := h2 k (by omega)
              simp only at g1 g2
              simp only [PFnTree.spec_l3Depth.l0]
              rw [if_pos (by omega), if_pos (by omega), rdLX x.f2 i z hz, g1]
              simp only [Option.bind_some]
              rw [drop_step x.f2 i z hz]
              simp only [depthAll]
              by_cases hd2 : depthX z false = depthX y false
              · rw [if_pos hd2, wrap_small (by omega) (by omega)]
                have e3 : ((i : Int) + 1) = ((i + 1 : Nat) : Int) := by omega
                rw [e3, g2]
                simp [hd2]
              · rw [if_neg hd2]
                simp [hd2]
          obtain ⟨K1, h1⟩ := ih y (List.mem_of_getElem? hy) (by omega) false
          obtain ⟨K2, h2⟩ := loop x.f2.length 0 (by omega) (by omega)
          refine ⟨max K1 K2 + 1, fun k hk => ?_⟩
          obtain ⟨k, rfl⟩ : ∃ m, k = m + 1 := ⟨k - 1, by omega⟩
          have g1 := h1 k (by omega)
          have g2 := h2 k (by omega)
          simp only at g1 g2
          rw [← hf2]
          simp only [PFnTree.spec_l3Depth.j0, Bool.false_eq_true, if_false]
          rw [if_pos (by omega)]
          rw [show (0 : Int) = ((0 : Nat) : Int) from rfl, rdLX x.f2 0 y hy, g1]
          simp only [Option.bind_some]
          rw [g2, hf2]
          simp [depthXL, depthAll]
  have hn4 : ∀ n : Int, True := fun _ => trivial
  rw [depthX_mk]
  dsimp only
  have step : ∀ k, PFnTree.spec_l3Depth.f (k + 1) x.f0 x.f1 x.f2 r = (if (if x.f0 = true then (x.f1.length : Int) else (x.f2.length : Int)) > 4 then PFnTree.spec_l3Depth.j0 k true x.f0 x.f1 x.f2 else if (if x.f0 = true then (x.f1.length : Int) else (x.f2.length : Int)) < 2 then (if r = true then PFnTree.spec_l3Depth.j0 k (!x.f0) x.f0 x.f1 x.f2 else PFnTree.spec_l3Depth.j0 k true x.f0 x.f1 x.f2) else PFnTree.spec_l3Depth.j0 k false x.f0 x.f1 x.f2) := by
    intro k
    simp only [PFnTree.spec_l3Depth.f, PFnTree.spec_l3Size.f]
    cases x.f0 <;> simp
  refine Ev.step step ?_
  by_cases c1 : (if x.f0 = true then (x.f1.length : Int) else (x.f2.length : Int)) > 4
  · simp only [if_pos c1]
    rw [if_pos (.inl c1)]
    exact key true (by simp)
  · simp only [if_neg c1]
    by_cases c2 : (if x.f0 = true then (x.f1.length : Int) else (x.f2.length : Int)) < 2
    · simp only [if_pos c2]
      by_cases c3 : r = true
      · simp only [if_pos c3]
        cases hl : x.f0 with
        | true =>
          have := key false (fun _ h => by rw [hl] at h; cases h)
          rw [hl] at this
          simp only [hl, Bool.not_true] at this ⊢
          rw [hl] at c1
          simp only [if_true] at c1 this ⊢
          rw [if_neg (by rintro (q | q); exact c1 q; exact q.2 ⟨c3, trivial⟩)]
          exact this
        | false =>
          have := key true (by simp)
          rw [hl] at this c2
          simp only [Bool.not_false, if_true, Bool.false_eq_true, if_false] at this c2 ⊢
          rw [if_pos (.inr ⟨c2, fun q => q.2.elim⟩)]
          exact this
      · simp only [if_neg c3]
        rw [if_pos (.inr ⟨c2, fun q => c3 q.1⟩)]
        exact key true (by simp)
    · simp only [if_neg c2]
      rw [if_neg (by rintro (q | q); exact c1 q; exact c2 q.1)]
      exact key false (fun _ hl => by rw [hl] at c2; simp at c2; omega)
end Go.Proofs.Ytnfaiblhjgmjgaa
