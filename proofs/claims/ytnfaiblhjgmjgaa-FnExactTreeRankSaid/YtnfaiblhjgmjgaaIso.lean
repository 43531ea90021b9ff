/-
  The program's trees and the reference's nested trees: the same trees.
-/
import Derived.Test.YtnfaiblhjgmjgaaOfPure
namespace Go.Proofs.Ytnfaiblhjgmjgaa
open Go.RowKit Go.Proofs.YtnfaiblhjgmjgaaW.PrintWords

mutual
def toX : T → LX
  | .leaf ks => ⟨true, ks, []⟩
  | .node kids => ⟨false, [], toXL kids⟩
def toXL : List T → List LX
  | [] => []
  | t :: ts => toX t :: toXL ts
end
mutual
def ofX : LX → T
  | ⟨l, ks, kids⟩ => if l then .leaf ks else .node (ofXL kids)
def ofXL : List LX → List T
  | [] => []
  | x :: xs => ofX x :: ofXL xs
end
theorem toXL_append : ∀ a b : List T, toXL (a ++ b) = toXL a ++ toXL b
  | [], b => by simp [toXL]
  | t :: a, b => by simp [toXL, toXL_append a b]
theorem ofXL_append : ∀ a b : List LX, ofXL (a ++ b) = ofXL a ++ ofXL b
  | [], b => by simp [ofXL]
  | t :: a, b => by simp [ofXL, ofXL_append a b]
theorem toXL_len : ∀ a : List T, (toXL a).length = a.length
  | [] => rfl
  | t :: a => by simp [toXL, toXL_len a]
theorem ofXL_len : ∀ a : List LX, (ofXL a).length = a.length
  | [] => rfl
  | t :: a => by simp [ofXL, ofXL_len a]
theorem ofX_mk (x : LX) : ofX x = if x.f0 then .leaf x.f1 else .node (ofXL x.f2) := by cases x; simp [ofX]
theorem keysXL_toXL : ∀ ts : List T, (∀ t ∈ ts, keysX (toX t) = t.keys) → keysXL (toXL ts) = keysL ts
  | [], _ => by simp [toXL, keysXL, keysL]
  | t :: ts, h => by simp [toXL, keysXL, keysL, h t, keysXL_toXL ts (fun y hy => h y (List.mem_cons_of_mem _ hy))]
theorem keysX_toX : ∀ t : T, keysX (toX t) = t.keys := by
  refine T.ind (fun ks => by simp [toX, keysX, T.keys]) (fun kids ih => ?_)
  simp [toX, keysX, T.keys, keysXL_toXL kids ih]
theorem keysL_ofXL : ∀ xs : List LX, (∀ x ∈ xs, (ofX x).keys = keysX x) → keysL (ofXL xs) = keysXL xs
  | [], _ => by simp [ofXL, keysXL, keysL]
  | t :: ts, h => by simp [ofXL, keysXL, keysL, h t, keysL_ofXL ts (fun y hy => h y (List.mem_cons_of_mem _ hy))]
theorem keys_ofX : ∀ x : LX, (ofX x).keys = keysX x := by
  refine LX.ind (fun x ih => ?_)
  rw [ofX_mk, keysX_mk]
  cases x.f0 with
  | true => simp [T.keys]
  | false => simp [T.keys, keysL_ofXL x.f2 ih]
/-- The count is the number of keys, where that is no great number. -/
theorem cntL_keys : ∀ (ts : List T) (a : Int), 0 ≤ a → (∀ t ∈ ts, t.keys.length < 1000000000 → T.cnt t = t.keys.length) → a + (keysL ts).length < 1000000000 → cntL a ts = a + (keysL ts).length
  | [], a, _, _, _ => by simp [cntL, keysL]
  | t :: ts, a, h0, h, hb => by
    simp only [keysL, List.length_append] at hb ⊢
    have h1 := h t List.mem_cons_self (by omega)
    have e : wrap64 (a + T.cnt t) = a + t.keys.length := by rw [h1]; unfold wrap64; omega
    simp only [cntL]
    rw [e, cntL_keys ts (a + t.keys.length) (by omega) (fun y hy => h y (List.mem_cons_of_mem _ hy)) (by omega)]
    omega
theorem cnt_keys : ∀ t : T, t.keys.length < 1000000000 → T.cnt t = t.keys.length := by
  refine T.ind (fun ks _ => by simp [T.cnt, T.keys]) (fun kids ih h => ?_)
  simp only [T.cnt, T.keys] at h ⊢
  rw [cntL_keys kids 0 (by omega) ih (by omega)]
  omega
/-- The least key is the first. -/
theorem least_first : ∀ t : T, 0 ≤ depthX (toX t) false → t.least = t.keys.headD ⟨#[]⟩ := by
  refine T.ind (fun ks _ => by simp [T.least, T.keys]) (fun kids ih hd => ?_)
  cases kids with
  | nil => simp [toX, toXL, depthX] at hd
  | cons k ks =>
    have hk := depth_kids (toX (.node (k :: ks))) false hd (by simp [toX]) (toX k) (by simp [toX, toXL])
    have hne := depth_ne (toX k) hk
    rw [keysX_toX] at hne
    have := ih k List.mem_cons_self hk
    simp only [T.least, leastL, T.keys, keysL]
    rw [this]
    cases hh : k.keys with
    | nil => exact absurd hh hne
    | cons a b => rfl

theorem nestKids_mem (rd : Nat → Option (LX × Nat)) : ∀ (rest : List Int) (acc : List LX) (nx : Nat) (kids : List LX) (nx' : Nat), nestKids rd rest acc nx = some (kids, nx') → ∀ y ∈ kids, y ∈ acc ∨ ∃ n m, rd n = some (y, m)
  | [], acc, nx, kids, nx', h, y, hy => by
    simp only [nestKids, Option.some.injEq, Prod.mk.injEq] at h
    obtain ⟨rfl, rfl⟩ := h
    exact .inl hy
  | a :: rest, acc, nx, kids, nx', h, y, hy => by
    unfold nestKids at h
    split at h
    · simp at h
    · split at h
      · simp at h
      · rename_i k nx2 hk
        rcases nestKids_mem rd rest (acc ++ [k]) nx2 kids nx' h y hy with q | q
        · rcases List.mem_append.1 q with q | q
          · exact .inl q
          · rw [List.mem_singleton] at q
            subst q
            exact .inr ⟨_, _, hk⟩
        · exact .inr q
/-- How deep the reference reads bounds the depth. -/
theorem nestN_depth (ns : List TN) : ∀ (f n : Nat) (x : LX) (nx : Nat) (r : Bool), nestN ns f n = some (x, nx) → depthX x r < f
  | 0, n, x, nx, r, h => by simp [nestN] at h
  | f + 1, n, x, nx, r, h => by
    unfold nestN at h
    split at h
    · simp at h
    · rename_i t ht
      split at h
      · split at h
        · simp only [Option.some.injEq, Prod.mk.injEq] at h
          obtain ⟨rfl, rfl⟩ := h
          rw [depthX_mk]
          simp only [if_true]
          split <;> omega
        · simp at h
      · unfold nestFin at h
        split at h
        · simp at h
        · rename_i kids nx2 hk
          split at h
          · simp only [Option.some.injEq, Prod.mk.injEq] at h
            obtain ⟨rfl, rfl⟩ := h
            have hm := nestKids_mem (nestN ns f) _ _ _ _ _ hk
            rw [depthX_mk]
            simp only [Bool.false_eq_true, if_false]
            split
            · omega
            · cases kids with
              | nil => simp only [depthXL]; omega
              | cons y ys =>
                have hy : depthX y false < f := by
                  rcases hm y List.mem_cons_self with q | ⟨n', m', q⟩
                  · simp at q
                  · exact nestN_depth ns f n' y m' false q
                simp only [depthXL]
                split
                · split <;> omega
                · omega
          · simp at h
end Go.Proofs.Ytnfaiblhjgmjgaa
