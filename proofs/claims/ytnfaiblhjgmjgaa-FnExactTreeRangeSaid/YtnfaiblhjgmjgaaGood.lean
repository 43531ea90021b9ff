/-
  Good trees: their keys are sorted, no child is without keys; how many keys lie below a key.
-/
import Derived.Test.YtnfaiblhjgmjgaaSpecEq
namespace Go.Proofs.Ytnfaiblhjgmjgaa
open Go.RowKit Go.Proofs.YtnfaiblhjgmjgaaW.PrintWords

theorem bytesLess_lex : ∀ (x y : List UInt8), Op.bytesLess x y = decide (x < y)
  | [], [] => by simp [Op.bytesLess]
  | _ :: _, [] => by simp [Op.bytesLess]
  | [], _ :: _ => by simp [Op.bytesLess]
  | a :: x, b :: y => by
    rw [Op.bytesLess, bytesLess_lex x y]
    simp only [List.cons_lt_cons_iff]
    by_cases h1 : a < b <;> by_cases h2 : a = b <;> by_cases h3 : x < y <;> simp [h1, h2, h3]
/-- Go's order of strings. -/
def ltB (a b : ByteArray) : Bool := Op.bytesLess a.toList b.toList
theorem ltB_iff (a b : ByteArray) : ltB a b = true ↔ a.toList < b.toList := by
  unfold ltB
  rw [bytesLess_lex, decide_eq_true_iff]
theorem ltB_trans {a b c : ByteArray} (h1 : ltB a b = true) (h2 : ltB b c = true) : ltB a c = true := by
  rw [ltB_iff] at *
  exact List.lt_trans h1 h2
theorem ltB_irrefl (a : ByteArray) : ltB a a = false := by
  cases h : ltB a a with
  | false => rfl
  | true => rw [ltB_iff] at h; exact absurd h (List.lt_irrefl _)
theorem ltB_asymm {a b : ByteArray} (h1 : ltB a b = true) : ltB b a = false := by
  cases h : ltB b a with
  | false => rfl
  | true => have := ltB_trans h1 h; rw [ltB_irrefl] at this; cases this
theorem ltB_total {a b : ByteArray} (h1 : ltB a b = false) (h2 : ltB b a = false) : a = b := by
  have g1 : ¬ a.toList < b.toList := fun q => by rw [(ltB_iff a b).2 q] at h1; cases h1
  have g2 : ¬ b.toList < a.toList := fun q => by rw [(ltB_iff b a).2 q] at h2; cases h2
  exact (bytes_same a b).1 (List.le_antisymm (List.not_lt.1 g2) (List.not_lt.1 g1))
theorem leB_eq (a b : ByteArray) : (Op.bytesLess a.toList b.toList || a.toList == b.toList) = !(ltB b a) := by
  change (ltB a b || _) = _
  cases h : ltB a b with
  | true => rw [ltB_asymm h]; rfl
  | false =>
    rw [Bool.false_or, bs_eq]
    cases h2 : ltB b a with
    | true =>
      refine decide_eq_false (fun e => ?_)
      subst e
      rw [ltB_irrefl] at h2
      cases h2
    | false => exact decide_eq_true (ltB_total h h2)
/-- a < b ≤ c. -/
theorem ltB_le {a b c : ByteArray} (h1 : ltB a b = true) (h2 : ltB c b = false) : ltB a c = true := by
  cases h : ltB b c with
  | true => exact ltB_trans h1 h
  | false => rw [ltB_total h2 h]; exact h1
/-- a ≤ b < c. -/
theorem leB_lt {a b c : ByteArray} (h1 : ltB b a = false) (h2 : ltB b c = true) : ltB a c = true := by
  cases h : ltB a b with
  | true => exact ltB_trans h h2
  | false => rw [ltB_total h h1]; exact h2

def Srt (l : List ByteArray) : Prop := l.Pairwise (fun a b => ltB a b = true)
theorem srt_run : ∀ (ks : List ByteArray) (last : ByteArray), (runK ordStep (last, false) ks).2 = true → (∀ k ∈ ks, ltB last k = true) ∧ Srt ks ∧ ∀ k ∈ ks, k.size ≤ 16
  | [], last, _ => ⟨by simp, List.Pairwise.nil, by simp⟩
  | k :: ks, last, h => by
    simp only [runK, ordStep, ordB, Bool.false_or] at h
    split at h
    · rename_i hb
      rw [Bool.and_eq_true, decide_eq_true_iff] at hb
      obtain ⟨h1, h2, h3⟩ := srt_run ks k h
      refine ⟨fun x hx => ?_, List.Pairwise.cons h1 h2, fun x hx => ?_⟩
      · rcases List.mem_cons.1 hx with rfl | hx
        · exact hb.2
        · exact ltB_trans hb.2 (h1 x hx)
      · rcases List.mem_cons.1 hx with rfl | hx
        · exact hb.1
        · exact h3 x hx
    · cases h
theorem srt_ok (ks : List ByteArray) (h : ordOk ks = true) : Srt ks ∧ ∀ k ∈ ks, k.size ≤ 16 := by
  unfold ordOk at h
  cases ks with
  | nil => exact ⟨List.Pairwise.nil, by simp⟩
  | cons k ks =>
    simp only [runK, ordStep, ordB, Bool.true_or, Bool.and_true] at h
    split at h
    · rename_i hb
      rw [decide_eq_true_iff] at hb
      obtain ⟨h1, h2, h3⟩ := srt_run ks k h
      exact ⟨List.Pairwise.cons h1 h2, fun x hx => by
        rcases List.mem_cons.1 hx with rfl | hx
        · exact hb
        · exact h3 x hx⟩
    · cases h
theorem Srt.left {a b : List ByteArray} (h : Srt (a ++ b)) : Srt a := (List.pairwise_append.1 h).1
theorem Srt.right {a b : List ByteArray} (h : Srt (a ++ b)) : Srt b := (List.pairwise_append.1 h).2.1
theorem Srt.cross {a b : List ByteArray} (h : Srt (a ++ b)) : ∀ x ∈ a, ∀ y ∈ b, ltB x y = true := (List.pairwise_append.1 h).2.2

/-- How many keys lie below a key. -/
def under (ks : List ByteArray) (key : ByteArray) : Nat := ks.countP (fun k => ltB k key)
theorem under_append (a b : List ByteArray) (key : ByteArray) : under (a ++ b) key = under a key + under b key := List.countP_append
theorem under_all (a : List ByteArray) (key : ByteArray) (h : ∀ x ∈ a, ltB x key = true) : under a key = a.length := List.countP_eq_length.2 h
theorem under_none (a : List ByteArray) (key : ByteArray) (h : ∀ x ∈ a, ltB x key = false) : under a key = 0 := List.countP_eq_zero.2 (fun x hx => by rw [h x hx]; simp)
theorem under_le (a : List ByteArray) (key : ByteArray) : under a key ≤ a.length := List.countP_le_length
theorem under_cons (a : ByteArray) (l : List ByteArray) (key : ByteArray) : under (a :: l) key = (if ltB a key then 1 else 0) + under l key := by
  unfold under
  rw [List.countP_cons]
  omega
/-- Of a sorted list: just the first ones lie below. -/
theorem under_iff : ∀ (l : List ByteArray) (key : ByteArray), Srt l → ∀ (i : Nat) (x : ByteArray), l[i]? = some x → (ltB x key = true ↔ i < under l key)
  | [], key, _, i, x, h => by simp at h
  | a :: l, key, hs, i, x, h => by
    rw [under_cons]
    have hs' := List.pairwise_cons.1 hs
    cases i with
    | zero =>
      simp only [List.getElem?_cons_zero, Option.some.injEq] at h
      subst h
      cases hx : ltB a key with
      | true => simp; omega
      | false =>
        have : under l key = 0 := under_none l key (fun y hy => by
          cases hy2 : ltB y key with
          | false => rfl
          | true => have := ltB_trans (hs'.1 y hy) hy2; rw [hx] at this; cases this)
        simp [this]
    | succ i =>
      simp only [List.getElem?_cons_succ] at h
      have ih := under_iff l key hs'.2 i x h
      cases hx : ltB a key with
      | true => rw [ih]; simp; omega
      | false =>
        have hy : ltB x key = false := by
          cases hy2 : ltB x key with
          | false => rfl
          | true => have := ltB_trans (hs'.1 x (List.mem_of_getElem? h)) hy2; rw [hx] at this; cases this
        have : under l key = 0 := under_none l key (fun y hy => by
          cases hy2 : ltB y key with
          | false => rfl
          | true => have := ltB_trans (hs'.1 y hy) hy2; rw [hx] at this; cases this)
        simp [hy, this]

mutual
/-- No child is without keys, and a node's least key is its first. -/
def T.good : T → Prop
  | .leaf _ => True
  | .node kids => kids ≠ [] ∧ goodL kids
def goodL : List T → Prop
  | [] => True
  | t :: ts => (T.good t ∧ t.keys ≠ [] ∧ t.least = t.keys.headD ⟨#[]⟩) ∧ goodL ts
end
theorem goodL_get : ∀ (kids : List T), goodL kids → ∀ t ∈ kids, T.good t ∧ t.keys ≠ [] ∧ t.least = t.keys.headD ⟨#[]⟩
  | [], _, t, h => by simp at h
  | x :: ts, hg, t, h => by
    unfold goodL at hg
    rcases List.mem_cons.1 h with rfl | h
    · exact hg.1
    · exact goodL_get ts hg.2 t h
theorem goodL_of : ∀ (kids : List T), (∀ t ∈ kids, T.good t ∧ t.keys ≠ [] ∧ t.least = t.keys.headD ⟨#[]⟩) → goodL kids
  | [], _ => by unfold goodL; trivial
  | x :: ts, h => by
    unfold goodL
    exact ⟨h x List.mem_cons_self, goodL_of ts (fun t ht => h t (List.mem_cons_of_mem _ ht))⟩
theorem keysL_append : ∀ (a b : List T), keysL (a ++ b) = keysL a ++ keysL b
  | [], b => by simp [keysL]
  | t :: a, b => by simp [keysL, keysL_append a b]
theorem keysL_len_of : ∀ (ts : List T), ∀ t ∈ ts, t.keys.length ≤ (keysL ts).length
  | [], t, h => by simp at h
  | x :: ts, t, h => by
    simp only [keysL, List.length_append]
    rcases List.mem_cons.1 h with rfl | h
    · omega
    · have := keysL_len_of ts t h; omega
theorem mem_ofXL : ∀ (xs : List LX) (t : T), t ∈ ofXL xs → ∃ x ∈ xs, t = ofX x
  | [], t, h => by simp [ofXL] at h
  | x :: xs, t, h => by
    simp only [ofXL, List.mem_cons] at h
    rcases h with rfl | h
    · exact ⟨x, List.mem_cons_self, rfl⟩
    · obtain ⟨u, hu, e⟩ := mem_ofXL xs t h
      exact ⟨u, List.mem_cons_of_mem _ hu, e⟩
theorem good_ofX : ∀ (x : LX) (r : Bool), 0 ≤ depthX x r → (ofX x).good := by
  refine LX.ind (fun x ih => ?_)
  intro r h
  have ha := depth_arity x r h
  have hk := depth_kids x r h
  rw [ofX_mk]
  cases hl : x.f0 with
  | true => simp only [if_true]; unfold T.good; trivial
  | false =>
    rw [hl] at ha
    simp only [Bool.false_eq_true, if_false] at ha ⊢
    unfold T.good
    refine ⟨fun e => ?_, goodL_of _ (fun t ht => ?_)⟩
    · have := ofXL_len x.f2
      rw [e] at this
      simp at this
      omega
    · obtain ⟨y, hy, rfl⟩ := mem_ofXL _ _ ht
      have hd := hk hl y hy
      refine ⟨ih y hy false hd, ?_, ?_⟩
      · rw [keys_ofX]; exact depth_ne y hd
      · rw [keys_ofX]; exact least_ofX y hd

/-- The child that a key belongs to. -/
def ChildAt (kids : List T) (key : ByteArray) (k : Nat) : Prop :=
  k < kids.length ∧ (∀ j t, 1 ≤ j → j ≤ k → kids[j]? = some t → ltB key t.least = false) ∧ ∀ t, kids[k + 1]? = some t → ltB key t.least = true
theorem head_mem {l : List ByteArray} (h : l ≠ []) : l.headD ⟨#[]⟩ ∈ l := by
  cases l with
  | nil => exact absurd rfl h
  | cons a l => simp
theorem srt_head {l : List ByteArray} (h : Srt l) (x : ByteArray) (hx : x ∈ l) : ltB x (l.headD ⟨#[]⟩) = false := by
  cases l with
  | nil => simp at hx
  | cons a l =>
    rcases List.mem_cons.1 hx with rfl | hx
    · exact ltB_irrefl _
    · exact ltB_asymm ((List.pairwise_cons.1 h).1 x hx)
/-- The keys of a node about its child k: those before are below the key, those behind are not. -/
theorem child_split (kids : List T) (key : ByteArray) (k : Nat) (t : T) (hg : goodL kids) (hs : Srt (keysL kids)) (hc : ChildAt kids key k) (ht : kids[k]? = some t) :
    keysL kids = keysL (kids.take k) ++ (t.keys ++ keysL (kids.drop (k + 1))) ∧ (∀ x ∈ keysL (kids.take k), ltB x key = true) ∧ (∀ x ∈ keysL (kids.drop (k + 1)), ltB key x = true) := by
  have e : keysL kids = keysL (kids.take k) ++ (t.keys ++ keysL (kids.drop (k + 1))) := by
    conv => lhs; rw [← List.take_append_drop k kids]
    rw [keysL_append, keysL_drop kids k t ht]
  rw [e] at hs
  obtain ⟨_, hne, hle⟩ := goodL_get kids hg t (List.mem_of_getElem? ht)
  refine ⟨e, fun x hx => ?_, fun x hx => ?_⟩
  · rcases Nat.eq_zero_or_pos k with rfl | hk
    · simp [keysL] at hx
    · have h1 := hc.2.1 k t hk (Nat.le_refl _) ht
      rw [hle] at h1
      exact ltB_le (hs.cross x hx _ (List.mem_append_left _ (head_mem hne))) h1
  · cases hu : kids[k + 1]? with
    | none =>
      have : kids.drop (k + 1) = [] := List.drop_eq_nil_of_le (by have := List.getElem?_eq_none_iff.1 hu; omega)
      rw [this] at hx
      simp [keysL] at hx
    | some u =>
      have h1 := hc.2.2 u hu
      obtain ⟨_, hne2, hle2⟩ := goodL_get kids hg u (List.mem_of_getElem? hu)
      have e2 := keysL_drop kids (k + 1) u hu
      have hs2 : Srt (keysL (kids.drop (k + 1))) := hs.right.right
      have h2 := srt_head hs2 x hx
      rw [e2] at h2
      have e3 : (u.keys ++ keysL (kids.drop (k + 1 + 1))).headD ⟨#[]⟩ = u.least := by
        rw [hle2]
        cases hk2 : u.keys with
        | nil => exact absurd hk2 hne2
        | cons a l => rfl
      rw [e3] at h2
      exact ltB_le h1 h2
theorem under_node (kids : List T) (key : ByteArray) (k : Nat) (t : T) (hg : goodL kids) (hs : Srt (keysL kids)) (hc : ChildAt kids key k) (ht : kids[k]? = some t) :
    under (keysL kids) key = (keysL (kids.take k)).length + under t.keys key := by
  obtain ⟨e, h1, h2⟩ := child_split kids key k t hg hs hc ht
  rw [e, under_append, under_append, under_all _ _ h1, under_none _ _ (fun x hx => ltB_asymm (h2 x hx))]
  omega

/-- What a valid tree is. -/
structure GoodTree (t : T) : Prop where
  good : t.good
  srt : Srt t.keys
  small : ∀ k ∈ t.keys, k.size ≤ 16
  few : t.keys.length ≤ 20000
theorem spec_root (ns : List TN) (x : LX) (h : specX ns = some x) : rootP ns = some (ofX x) ∧ GoodTree (ofX x) ∧ (ofX x).keys = keysX x := by
  unfold specX at h
  split at h
  · simp at h
  · rename_i hlen
    split at h
    · simp at h
    · rename_i y nx hn
      split at h
      · simp at h
      · rename_i hd
        split at h
        · rename_i ho
          split at h
          · rename_i hf
            obtain rfl : y = x := by simpa using h
            have hnx : nx = ns.length := Decidable.byContradiction (fun q => hd (.inl q))
            have hd0 : ¬ depthX y true < 0 := fun q => hd (.inr q)
            have hsz := nestN_size ns 21 0 y nx hn
            have hdp := nestN_depth ns 21 0 y nx true hn
            have hkl := keys_le y true (by omega)
            have hr := flat_rd ns y true (depthX y true).toNat 31 0 [] (by omega) (by omega) (by omega) (fun _ => rfl) (by omega) (by rw [List.drop_zero, List.append_nil]; exact hf.symm)
            have hso := srt_ok _ ho
            refine ⟨?_, ⟨good_ofX y true (by omega), by rw [keys_ofX]; exact hso.1, by rw [keys_ofX]; exact hso.2, by rw [keys_ofX]; omega⟩, keys_ofX y⟩
            unfold rootP
            rw [if_neg (by omega), hr]
            simp only
            rw [if_neg (by omega), keys_ofX, if_pos ho]
          · simp at h
        · simp at h
theorem spec_size (ns : List TN) (x : LX) (h : specX ns = some x) : sizeX x ≤ 5000 := by
  unfold specX at h
  split at h
  · simp at h
  · rename_i hlen
    split at h
    · simp at h
    · rename_i y nx hn
      split at h
      · simp at h
      · rename_i hd
        split at h
        · split at h
          · obtain rfl : y = x := by simpa using h
            have hnx : nx = ns.length := Decidable.byContradiction (fun q => hd (.inl q))
            have hsz := nestN_size ns 21 0 y nx hn
            omega
          · simp at h
        · simp at h
theorem spec_root_none (ns : List TN) (h : specX ns = none) : rootP ns = none := by
  have := specX_root ns
  rw [h] at this
  cases hr : rootP ns with
  | none => rfl
  | some t => rw [hr] at this; simp at this
/-- A root that was read is a good tree. -/
theorem root_good (ns : List TN) (t : T) (h : rootP ns = some t) : GoodTree t ∧ ∃ x, specX ns = some x ∧ t = ofX x ∧ keysX x = t.keys := by
  cases hs : specX ns with
  | none => rw [spec_root_none ns hs] at h; cases h
  | some x =>
    obtain ⟨h1, h2, h3⟩ := spec_root ns x hs
    rw [h] at h1
    injection h1 with h1
    subst h1
    exact ⟨h2, x, rfl, rfl, h3.symm⟩
end Go.Proofs.Ytnfaiblhjgmjgaa
