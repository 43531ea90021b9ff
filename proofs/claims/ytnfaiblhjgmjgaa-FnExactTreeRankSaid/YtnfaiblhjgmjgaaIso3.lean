/-
  What the program reads is a flat row of a good nested tree; the reference reads it too.
-/
import Derived.Test.YtnfaiblhjgmjgaaIso2
namespace Go.Proofs.Ytnfaiblhjgmjgaa
open Go.RowKit Go.Proofs.YtnfaiblhjgmjgaaW.PrintWords

theorem nestKids_flat (ns : List TN) (rd : Nat → Option (LX × Nat)) :
    ∀ (ts : List T) (acc : List LX) (next : Nat) (rest : List TN), (∀ t ∈ ts, ∀ n rest, ns.drop n = flatX (toX t) n ++ rest → rd n = some (toX t, n + sizeX (toX t))) → ns.drop next = flatXL (toXL ts) next ++ rest →
      nestKids rd (posX (toXL ts) next) acc next = some (acc ++ toXL ts, next + sizeXL (toXL ts))
  | [], acc, next, rest, _, _ => by simp [toXL, posX, nestKids, sizeXL]
  | t :: ts, acc, next, rest, hrd, hdr => by
    have h1 : ns.drop next = flatX (toX t) next ++ (flatXL (toXL ts) ((next : Int) + sizeX (toX t)) ++ rest) := by rw [hdr]; simp [flatXL, toXL]
    have h2 := hrd t List.mem_cons_self next _ h1
    have h3 := drop_flat h1
    rw [flatX_len] at h3
    have e : ((next : Int) + sizeX (toX t)) = ((next + sizeX (toX t) : Nat) : Int) := by omega
    have h4 := nestKids_flat ns rd ts (acc ++ [toX t]) (next + sizeX (toX t)) rest (fun y hy => hrd y (List.mem_cons_of_mem _ hy)) (by rw [h3, e])
    simp only [toXL, posX, nestKids, ne_eq, not_true_eq_false, if_false, h2]
    rw [e, h4]
    simp [sizeXL, Nat.add_assoc]

theorem flat_nest (ns : List TN) : ∀ (t : T) (r : Bool) (d f n : Nat) (rest : List TN), depthX (toX t) r = d → d < f → ns.drop n = flatX (toX t) n ++ rest → nestN ns f n = some (toX t, n + sizeX (toX t)) := by
  refine T.ind (fun ks => ?_) (fun kids ih => ?_)
  · intro r d f n rest hd hf hdr
    obtain ⟨f, rfl⟩ : ∃ m, f = m + 1 := ⟨f - 1, by omega⟩
    have hh := head_flat (by rw [hdr]; rfl : ns.drop n = (⟨true, ks, [], (ks.length : Int)⟩ : TN) :: rest)
    simp [nestN, hh, toX, sizeX]
  · intro r d f n rest hd hf hdr
    obtain ⟨f, rfl⟩ : ∃ m, f = m + 1 := ⟨f - 1, by omega⟩
    have hdp : 0 ≤ depthX (toX (.node kids)) r := by omega
    have ha := depth_arity (toX (.node kids)) r hdp
    have hdd := depthX_mk (toX (.node kids)) r
    rw [flatX_mk] at hdr
    simp only [toX, Bool.false_eq_true, if_false] at ha hdd hdr hd
    have hdx : depthX (⟨false, [], toXL kids⟩ : LX) r = depthXL (toXL kids) := by
      rw [hdd, if_neg (by rintro (q | q); omega; omega)]
    obtain ⟨d', hd'0, hd'1, hne, hall⟩ := depthXL_kids (toXL kids) (by rw [← hdx, hd]; omega)
    have hh := head_flat (by rw [hdr]; rfl : ns.drop n = _ :: (flatXL (toXL kids) ((n : Int) + 1) ++ rest))
    have hmem : ∀ t ∈ kids, toX t ∈ toXL kids := by
      intro t ht
      obtain ⟨a, b, e⟩ := List.append_of_mem ht
      rw [e, toXL_append]
      simp [toXL]
    have hk := nestKids_flat ns (nestN ns f) kids [] (n + 1) rest (fun t ht m rest' hm => ih t ht false d'.toNat f m rest' (by rw [hall _ (hmem t ht)]; omega) (by omega) hm) (by
        have := drop_flat (a := [(⟨false, sepsX (toXL kids), posX (toXL kids) ((n : Int) + 1), ((keysXL (toXL kids)).length : Int)⟩ : TN)]) (b := flatXL (toXL kids) ((n : Int) + 1) ++ rest) (by rw [hdr]; rfl)
        rw [List.length_singleton] at this
        rw [this]
        rfl)
    rw [show (((n + 1 : Nat)) : Int) = (n : Int) + 1 by omega] at hk
    simp only [nestN, hh, Bool.false_eq_true, if_false, hk, nestFin, posX_len]
    rw [if_pos (by omega)]
    simp only [toX, sizeX_mk, Bool.false_eq_true, if_false, List.nil_append]
    congr 2
    omega
end Go.Proofs.Ytnfaiblhjgmjgaa
