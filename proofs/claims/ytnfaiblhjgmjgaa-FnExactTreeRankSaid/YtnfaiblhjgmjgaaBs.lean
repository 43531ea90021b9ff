/-
  slices.BinarySearch of sorted strings: how many lie below, and whether the key is there.
-/
import Derived.Test.YtnfaiblhjgmjgaaGood
import Derived.Test.YtnfaiblhjgmjgaaPFnTreex3
import Derived.IntWalk
namespace Go.Proofs.Ytnfaiblhjgmjgaa
open Go.RowKit Go.Proofs.YtnfaiblhjgmjgaaW.PrintWords

def hasB (l : List ByteArray) (key : ByteArray) : Bool := l.any (fun x => decide (x = key))
theorem hasB_iff (l : List ByteArray) (key : ByteArray) : hasB l key = true ↔ key ∈ l := by
  unfold hasB
  rw [List.any_eq_true]
  exact ⟨fun ⟨x, hx, e⟩ => (of_decide_eq_true e) ▸ hx, fun h => ⟨key, h, decide_eq_true rfl⟩⟩
theorem isNaN_f (a : ByteArray) : PFnTree.slices_isNaN_string.f a = some false := by simp [PFnTree.slices_isNaN_string.f]
theorem Less_f (a b : ByteArray) : PFnTree.cmp_Less_string.f a b = some (ltB a b) := by simp [PFnTree.cmp_Less_string.f, PFnTree.cmp_isNaN_string.f, ltB]
theorem has_at (l : List ByteArray) (key : ByteArray) (hs : Srt l) (x : ByteArray) (hx : l[under l key]? = some x) : hasB l key = decide (x = key) := by
  have hx0 : ¬ ltB x key = true := fun q => by have := (under_iff l key hs _ x hx).1 q; omega
  rw [Bool.eq_iff_iff, hasB_iff, decide_eq_true_iff]
  refine ⟨fun hm => ?_, fun e => e ▸ List.mem_of_getElem? hx⟩
  obtain ⟨j, hj⟩ := List.getElem?_of_mem hm
  have h1 : ¬ ltB key key = true := by rw [ltB_irrefl]; simp
  have h2 : ¬ j < under l key := fun q => h1 ((under_iff l key hs j key hj).2 q)
  rcases Nat.lt_or_ge (under l key) j with hlt | hge
  · exfalso
    have hjl := (List.getElem?_eq_some_iff.1 hj).1
    have := List.pairwise_iff_getElem.1 hs (under l key) j (by omega) hjl hlt
    rw [(List.getElem?_eq_some_iff.1 hj).2, (List.getElem?_eq_some_iff.1 hx).2] at this
    exact hx0 this
  · obtain rfl : j = under l key := by omega
    rw [hx] at hj
    exact Option.some.inj hj
theorem has_end (l : List ByteArray) (key : ByteArray) (hs : Srt l) (hx : l.length ≤ under l key) : hasB l key = false := by
  refine Bool.eq_false_iff.2 (fun hm => ?_)
  rw [hasB_iff] at hm
  obtain ⟨j, hj⟩ := List.getElem?_of_mem hm
  have hjl := (List.getElem?_eq_some_iff.1 hj).1
  have := (under_iff l key hs j key hj).2 (by omega)
  rw [ltB_irrefl] at this
  cases this

theorem bs_l0 (l : List ByteArray) (key : ByteArray) (hs : Srt l) (hl : l.length < 1000000000) : ∀ (d lo hi : Nat), hi - lo ≤ d → lo ≤ under l key → under l key ≤ hi → hi ≤ l.length → ∀ k, d < k →
    PFnTree.slices_BinarySearch_string_string.l0 k l key (l.length : Int) (lo : Int) (hi : Int) = some ((under l key : Int), hasB l key) := by
  intro d
  induction d with
  | zero =>
    intro lo hi h0 h1 h2 h3 k hk
    obtain ⟨k, rfl⟩ : ∃ m, k = m + 1 := ⟨k - 1, by omega⟩
    obtain rfl : lo = under l key := by omega
    obtain rfl : hi = under l key := by omega
    simp only [PFnTree.slices_BinarySearch_string_string.l0]
    rw [if_neg (by omega)]
    by_cases hn : under l key < l.length
    · obtain ⟨x, hx⟩ : ∃ x, l[under l key]? = some x := ⟨_, List.getElem?_eq_getElem hn⟩
      rw [if_pos (by omega), if_pos (by omega), if_pos (by omega), rdOf_nat l _ x hx, has_at l key hs x hx]
      by_cases hxk : x = key
      · rw [if_pos ((bytes_same _ _).2 hxk), decide_eq_true hxk]
      · rw [if_neg (fun q => hxk ((bytes_same _ _).1 q)), isNaN_f]
        simp [hxk]
    · rw [if_neg (by omega), has_end l key hs (by omega)]
  | succ d ih =>
    intro lo hi h0 h1 h2 h3 k hk
    by_cases hlt : lo < hi
    · obtain ⟨k, rfl⟩ : ∃ m, k = m + 1 := ⟨k - 1, by omega⟩
      obtain ⟨m, hm⟩ : ∃ m : Nat, m = (lo + hi) / 2 := ⟨_, rfl⟩
      have e : wrap64 (IntKind.u64.wrap (wrap64 ((lo : Int) + (hi : Int))) / 2) = (m : Int) := by
        rw [IntWalk.wrap64_in ((lo : Int) + (hi : Int)) (by omega), IntWalk.u64_in ((lo : Int) + (hi : Int)) (by omega), IntWalk.wrap64_in (((lo : Int) + (hi : Int)) / 2) (by omega)]
        omega
      obtain ⟨x, hx⟩ : ∃ x, l[m]? = some x := ⟨_, List.getElem?_eq_getElem (by omega)⟩
      have hu := under_iff l key hs m x hx
      simp only [PFnTree.slices_BinarySearch_string_string.l0]
      rw [if_pos (by omega), e, if_pos (by omega), if_pos (by omega), rdOf_nat l m x hx, Less_f]
      simp only [Option.bind_some]
      cases hb : ltB x key with
      | true =>
        have h4 := hu.1 hb
        rw [if_pos rfl]
        rw [IntWalk.wrap64_in ((m : Int) + 1) (by omega), show (m : Int) + 1 = ((m + 1 : Nat) : Int) from rfl]
        exact ih (m + 1) hi (by omega) (by omega) h2 h3 k (by omega)
      | false =>
        have h4 : ¬ m < under l key := fun q => by rw [hu.2 q] at hb; cases hb
        rw [if_neg (by simp)]
        exact ih lo m (by omega) h1 (by omega) (by omega) k (by omega)
    · have := ih lo hi (by omega) h1 h2 h3 k (by omega)
      exact this
theorem bs_f (l : List ByteArray) (key : ByteArray) (hs : Srt l) (hl : l.length < 1000000000) : PFnTree.slices_BinarySearch_string_string.f (l.length + 1) l key = some ((under l key : Int), hasB l key) := by
  unfold PFnTree.slices_BinarySearch_string_string.f
  have := bs_l0 l key hs hl l.length 0 l.length (by omega) (by omega) (under_le l key) (by omega) (l.length + 1) (by omega)
  simpa using this
/-- slices.BinarySearch. -/
theorem bs_any (A : Option Addr) (c : Nat) (l : List ByteArray) (key : ByteArray) (w : World) (h : Kd.C Kd.string w A l.length l) (hc : l.length ≤ c) (hs : Srt l) (hl : l.length < 1000000000) :
    Calls Try.prog 54 #[.slice A l.length c, .string key] w fun e w' => e = .returned (.tuple #[.int .i64 (under l key), .bool (hasB l key)]) ∧ Drawn0 w w' :=
  PFnTree.slices_BinarySearch_string_string.calls (l.length + 1) A c l key _ _ w h hc (bs_f l key hs hl)
end Go.Proofs.Ytnfaiblhjgmjgaa
