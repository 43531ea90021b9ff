/-
  The program's child and rank.
-/
import Derived.Test.YtnfaiblhjgmjgaaBs
import Derived.IntWalk
namespace Go.Proofs.Ytnfaiblhjgmjgaa
open Go.RowKit Go.Proofs.YtnfaiblhjgmjgaaW.PrintWords

theorem full_good : ∀ t : T, t.good → t.full := by
  refine T.ind (fun ks _ => ?_) (fun kids ih h => ?_)
  · unfold T.full; trivial
  · unfold T.good at h
    unfold T.full
    refine ⟨h.1, ?_⟩
    have : ∀ l : List T, (∀ t ∈ l, t.full) → fullL l := by
      intro l
      induction l with
      | nil => intro _; unfold fullL; trivial
      | cons a l ih => intro h; unfold fullL; exact ⟨h a List.mem_cons_self, ih (fun t ht => h t (List.mem_cons_of_mem _ ht))⟩
    exact this kids (fun t ht => ih t ht (goodL_get kids h.2 t ht).1)

theorem least_lw {w : World} {t : T} {b : Nat} (h : NodeAt w t (.iface 68 (.pointer (some ⟨b, 0, none⟩)))) (hf : t.full) :
    Calls Try.prog 105 #[.pointer (some ⟨b, 0, none⟩)] w fun e w2 => e = .returned (.string t.least) ∧ w = w2 := by
  rcases least_any t w _ b h hf with ⟨_, h⟩ | ⟨h, _⟩
  · exact h
  · exact absurd h (by decide)
theorem least_nw {w : World} {t : T} {b : Nat} (h : NodeAt w t (.iface 72 (.pointer (some ⟨b, 0, none⟩)))) (hf : t.full) :
    Calls Try.prog 106 #[.pointer (some ⟨b, 0, none⟩)] w fun e w2 => e = .returned (.string t.least) ∧ w = w2 := by
  rcases least_any t w _ b h hf with ⟨h, _⟩ | ⟨_, h⟩
  · exact absurd h (by decide)
  · exact h

def ChildPost (w : World) (kids : List T) (key : ByteArray) (e : Ending) (w' : World) : Prop := ∃ k : Nat, e = .returned (.int .i64 k) ∧ ChildAt kids key k ∧ Below w.heap.size w w'

set_option maxHeartbeats 1000000 in
set_option maxRecDepth 100000 in
theorem child_any (kids : List T) (b : Nat) (key : ByteArray) (w : World) (hn : NodeAt w (.node kids) (.iface 72 (.pointer (some ⟨b, 0, none⟩)))) (hg : kids ≠ [] ∧ goodL kids) :
    Calls Try.prog 55 #[.pointer (some ⟨b, 0, none⟩), .string key] w (ChildPost w kids key) := by
  unfold NodeAt at hn
  obtain ⟨b', A, c, vs, e0, hh, hc, hcm, hr, hk⟩ := hn
  injection e0 with e1 e2
  injection e2 with e2
  injection e2 with e2
  injection e2 with e2
  subst e2
  have h1 : w.cell? ⟨b, 1, none⟩ = some (.slice A kids.length c) := (blkcell hh 1).trans rfl
  have hm : kids.length ≤ 9223372036854775807 := by omega
  have h0 : 0 < kids.length := List.length_pos_iff.2 hg.1
  have HH := Aside0.mk hh
  have HK := Aside0.mk hk
  have HR := Aside0.mk hr
  have HG := Aside0.mk hg.2
  clear hh hk hr hg hcm
  go_enter Try.func55, Try.ntmps55
  go_wp2
  go_loopw [5] (fun i wr => ∃ k : Nat, k < kids.length ∧ i = .int .i64 k ∧ Aside0 (∀ j t, 1 ≤ j → j ≤ k → kids[j]? = some t → ltB key t.least = false) ∧ Aside0 (Below w.heap.size w wr)) (fun i _ => kids.length - (intOf i).toNat)
  case atStart => exact ⟨0, h0, rfl, ⟨fun j t h2 h3 => absurd h3 (by omega)⟩, ⟨Below.refl _ _⟩⟩
  case round =>
    obtain ⟨k, hkl, rfl, hpre, hb⟩ := hrel
    have h1w : wr.cell? ⟨b, 1, none⟩ = some (.slice A kids.length c) := pw_cell_below hb.out h1
    clear h1
    have z1 : (0 : Int) ≤ (k : Int) + 1 := by omega
    have z4 : IntKind.i64.wrap ((k : Int) + 1) = (k : Int) + 1 := IntWalk.i64_in _ (by omega)
    have z5 : ((k : Int) + 1).toNat = k + 1 := by omega
    by_cases hlt : k + 1 < kids.length
    · obtain ⟨t, ht⟩ : ∃ t, kids[k + 1]? = some t := ⟨_, List.getElem?_eq_getElem hlt⟩
      obtain ⟨v, hv, hnode⟩ := HK.out.get (k + 1) t ht
      obtain ⟨ad, rfl, hcell⟩ := HR.out (by have := HK.out.length; omega)
      obtain ⟨kk, b', rfl⟩ := hnode.iface
      have hcw : wr.cell? (ad.add (k + 1)) = some (.iface kk (.pointer (some ⟨b', 0, none⟩))) := pw_cell_below hb.out (hcell (k + 1) _ hv)
      rw [Addr.add_succ'] at hcw
      have hkk := (nodeAt_cell0 hnode).1
      have HN2 := Aside0.mk (NodeAt.below hb.out _ _ hnode)
      have HP := Aside0.mk (full_good t (goodL_get kids HG.out t (List.mem_of_getElem? ht)).1)
      have hml := m_least_leaf
      have hmi := m_least_inner
      have HT := Aside0.mk ht
      have d1 : decide ((k : Int) + 1 < (kids.length : Int)) = true := decide_eq_true (by omega)
      have d2 : decide (k + 1 < kids.length) = true := decide_eq_true hlt
      have z6 : (k : Int) + 1 < (kids.length : Int) := by omega
      clear hcell hv hnode ht
      by_cases hle : ltB key t.least = true
      · have HPOST : Aside0 (ChildAt kids key k) := ⟨hkl, hpre.out, fun u hu => by rw [HT.out] at hu; injection hu with hu; subst hu; exact hle⟩
        have hor := leB_eq t.least key
        rw [hle, Bool.not_true, Bool.or_eq_false_iff] at hor
        obtain ⟨o1, o2⟩ := hor
        clear hle
        rcases hkk with rfl | rfl
        · go_wp2_with (go_at_call 105; refine (least_lw HN2.out HP.out).mono ?_; rintro e w' ⟨rfl, rfl⟩)
          go_ret
          exact ⟨k, rfl, HPOST.out, hb.out⟩
        · go_wp2_with (go_at_call 106; refine (least_nw HN2.out HP.out).mono ?_; rintro e w' ⟨rfl, rfl⟩)
          go_ret
          exact ⟨k, rfl, HPOST.out, hb.out⟩
      · have hle2 : ltB key t.least = false := by simpa using hle
        have HPRE : Aside0 (∀ j u, 1 ≤ j → j ≤ k + 1 → kids[j]? = some u → ltB key u.least = false) := ⟨fun j u h2 h3 hu => by
          by_cases hj : j ≤ k
          · exact hpre.out j u h2 hj hu
          · obtain rfl : j = k + 1 := by omega
            rw [HT.out] at hu; injection hu with hu; subst hu; exact hle2⟩
        have hor := leB_eq t.least key
        rw [hle2, Bool.not_false, Bool.or_eq_true_iff] at hor
        have hor2 : Op.bytesLess t.least.toList key.toList = true ∨ (Op.bytesLess t.least.toList key.toList = false ∧ (t.least.toList == key.toList) = true) := by
          cases hq : Op.bytesLess t.least.toList key.toList with
          | true => exact .inl rfl
          | false => rw [hq] at hor; exact .inr ⟨rfl, hor.resolve_left (by simp)⟩
        clear hle hle2 hor
        rcases hkk with rfl | rfl
        · rcases hor2 with o1 | ⟨o1, o2⟩
          all_goals
            go_wp2_with (go_at_call 105; refine (least_lw HN2.out HP.out).mono ?_; rintro e w' ⟨rfl, rfl⟩)
            go_roundw
            case rel => exact ⟨k + 1, hlt, by go_num, HPRE, ⟨hb.out⟩⟩
            case measure => simp [intOf]; omega
        · rcases hor2 with o1 | ⟨o1, o2⟩
          all_goals
            go_wp2_with (go_at_call 106; refine (least_nw HN2.out HP.out).mono ?_; rintro e w' ⟨rfl, rfl⟩)
            go_roundw
            case rel => exact ⟨k + 1, hlt, by go_num, HPRE, ⟨hb.out⟩⟩
            case measure => simp [intOf]; omega
    · have HPOST : Aside0 (ChildAt kids key k) := ⟨hkl, hpre.out, fun u hu => absurd (List.getElem?_eq_some_iff.1 hu).1 hlt⟩
      have d1 : decide ((k : Int) + 1 < (kids.length : Int)) = false := decide_eq_false (by omega)
      have d2 : decide (k + 1 < kids.length) = false := decide_eq_false hlt
      clear hlt
      go_wp2
      go_ret
      exact ⟨k, rfl, HPOST.out, hb.out⟩
def RankOk (t : T) : Prop := ∀ (v : Value) (key : ByteArray) (w : World), NodeAt w t v → t.good → Srt t.keys → t.keys.length ≤ 20000 →
  Calls Try.prog 33 #[v, .string key] w fun e w' => e = .returned (.int .i64 (under t.keys key)) ∧ Below w.heap.size w w'

set_option maxHeartbeats 1000000 in
set_option maxRecDepth 100000 in
theorem rank_leaf (ks : List ByteArray) : RankOk (.leaf ks) := by
  intro v key w hn _ hs hl
  unfold NodeAt at hn
  obtain ⟨b, A, c, rfl, hh, hc, hk⟩ := hn
  have h1 : w.cell? ⟨b, 1, none⟩ = some (.slice A ks.length c) := (blkcell hh 1).trans rfl
  have hkeys : (T.leaf ks).keys = ks := by simp [T.keys]
  rw [hkeys] at hs hl ⊢
  have HB := Aside0.mk (bs_any A c ks key w hk hc hs (by omega))
  have t1 := ta_ll
  clear hh hk hc hs hl hkeys
  go_enter Try.func33, Try.ntmps33
  go_wp2_with (go_at_call 54; refine HB.out.mono ?_; rintro e w' ⟨rfl, ⟨q, rfl⟩⟩)
  go_ret
  exact ⟨rfl, pw_below_drewN (Below.refl _ _) _⟩

set_option maxHeartbeats 2000000 in
set_option maxRecDepth 100000 in
theorem rank_node (kids : List T) (ih : ∀ t ∈ kids, RankOk t) : RankOk (.node kids) := by
  intro v key w hn hg hs hl
  have hn0 := hn
  unfold NodeAt at hn
  obtain ⟨b, A, c, vs, rfl, hh, hc, hcm, hr, hk⟩ := hn
  unfold T.good at hg
  have hkeys : (T.node kids).keys = keysL kids := by simp [T.keys]
  rw [hkeys] at hs hl ⊢
  have HCH := Aside0.mk (child_any kids b key w hn0 hg)
  have h1 : w.cell? ⟨b, 1, none⟩ = some (.slice A kids.length c) := (blkcell hh 1).trans rfl
  have hm : kids.length ≤ 9223372036854775807 := by omega
  have t1 := ta_nl
  have t2 := ta_nn
  have hml := m_keys_leaf
  have hmi := m_keys_inner
  have HH := Aside0.mk hh
  have HK := Aside0.mk hk
  have HR := Aside0.mk hr
  have HG := Aside0.mk hg
  have HS := Aside0.mk hs
  have HL := Aside0.mk hl
  have IH := Aside0.mk ih
  clear hh hk hr hg hs hl hkeys ih hn0
  go_enter Try.func33, Try.ntmps33
  go_wp2_with fail
  refine HCH.out.mono ?_
  rintro e w' ⟨at_, rfl, hca, hb⟩
  have HCA := Aside0.mk hca
  have hat : at_ < kids.length := hca.1
  have h1' : w'.cell? ⟨b, 1, none⟩ = some (.slice A kids.length c) := pw_cell_below hb h1
  have x1 : (at_ : Int) ≤ (c : Int) := by omega
  have x2 : at_ ≤ c := by omega
  have HB := Aside0.mk hb
  clear h1 hca hb
  go_wp2
  go_loopw [10, 40] (fun s i wr => ∃ k : Nat, k ≤ at_ ∧ i = .int .i64 k ∧ s = .int .i64 ((keysL (kids.take k)).length : Nat) ∧ Aside0 (Below w.heap.size w wr)) (fun _ i _ => at_ - (intOf i).toNat)
  case atStart => exact ⟨0, Nat.zero_le _, rfl, by simp [keysL], HB⟩
  case round =>
    obtain ⟨k, hkl, rfl, rfl, hb⟩ := hrel
    have h1w : wr.cell? ⟨b, 1, none⟩ = some (.slice A kids.length c) := (pw_cell_below hb.out ((blkcell HH.out 1).trans rfl))
    clear h1'
    by_cases hlt : k < at_
    · obtain ⟨t, ht⟩ : ∃ t, kids[k]? = some t := ⟨_, List.getElem?_eq_getElem (by omega)⟩
      obtain ⟨v, hv, hnode⟩ := HK.out.get k t ht
      obtain ⟨ad, rfl, hcell⟩ := HR.out (by have := HK.out.length; omega)
      obtain ⟨kk, b', rfl⟩ := hnode.iface
      have hc1 : wr.cell? (ad.add k) = some (.iface kk (.pointer (some ⟨b', 0, none⟩))) := pw_cell_below hb.out (hcell k _ hv)
      obtain ⟨hkk, hc0⟩ := nodeAt_cell0 hnode
      have e1 := keysL_drop kids k t ht
      have e2 : (keysL kids).length = (keysL (kids.take k)).length + (keysL (kids.drop k)).length := by
        conv => lhs; rw [← List.take_append_drop k kids, keysL_append, List.length_append]
      have e3 : (keysL (kids.take (k + 1))).length = (keysL (kids.take k)).length + t.keys.length := by
        rw [List.take_add_one, ht]
        simp [keysL_append, keysL]
      rw [e1, List.length_append] at e2
      have hl := HL.out
      have hcnt : t.cnt = (t.keys.length : Int) := cnt_keys t (by omega)
      have hc2 : wr.cell? ⟨b', 0, none⟩ = some (.int .i64 (t.keys.length : Int)) := by rw [← hcnt]; exact pw_cell_below hb.out hc0
      obtain ⟨a, ha⟩ : ∃ a : Nat, (keysL (kids.take k)).length = a := ⟨_, rfl⟩
      obtain ⟨q, hq⟩ : ∃ q : Nat, t.keys.length = q := ⟨_, rfl⟩
      rw [ha] at e2 e3 ⊢
      rw [hq] at e2 e3 hc2
      have y1 : a + q ≤ 20000 := by omega
      have y2 : (a : Int) ≤ 20000 := by omega
      have y3 : (q : Int) ≤ 20000 := by omega
      have E3 := Aside0.mk e3
      clear hc0 hcell hv ht hnode e1 e2 e3 hl hcnt ha hq
      rcases hkk with rfl | rfl
      all_goals
        go_wp2_with (go_at_call 104; refine (keys_any _ _).mono ?_; rintro e w'' ⟨rfl, rfl⟩)
        go_roundw
        case rel =>
          refine ⟨k + 1, by omega, by go_num, by rw [E3.out]; go_num, ⟨?_⟩⟩
          repeat (first | exact hb.out | refine below_drew ?_ | refine below_alloc ?_ _ | refine below_set ?_ (Nat.le_refl _))
        case measure => simp [intOf]; omega
    · obtain rfl : k = at_ := by omega
      obtain ⟨t, ht⟩ : ∃ t, kids[k]? = some t := ⟨_, List.getElem?_eq_getElem hat⟩
      obtain ⟨v, hv, hnode⟩ := HK.out.get k t ht
      obtain ⟨ad, rfl, hcell⟩ := HR.out (by have := HK.out.length; omega)
      have hc1 : wr.cell? (ad.add k) = some v := pw_cell_below hb.out (hcell k _ hv)
      have hsp := child_split kids key k t HG.out.2 HS.out HCA.out ht
      have hun := under_node kids key k t HG.out.2 HS.out HCA.out ht
      have hst : Srt t.keys := by have := HS.out; rw [hsp.1] at this; exact this.right.left
      have hlt2 := keysL_len_of kids t (List.mem_of_getElem? ht)
      have hl := HL.out
      have hle := under_le (keysL kids) key
      have HC := Aside0.mk (IH.out t (List.mem_of_getElem? ht) v key wr (NodeAt.below hb.out _ _ hnode) (goodL_get kids HG.out.2 t (List.mem_of_getElem? ht)).1 hst (by omega))
      obtain ⟨a, ha⟩ : ∃ a : Nat, (keysL (kids.take k)).length = a := ⟨_, rfl⟩
      obtain ⟨q, hq⟩ : ∃ q : Nat, under t.keys key = q := ⟨_, rfl⟩
      rw [ha, hq] at hun
      rw [ha]
      rw [hq] at HC
      have y1 : a + q ≤ 20000 := by omega
      have y2 : (a : Int) ≤ 20000 := by omega
      have y3 : (q : Int) ≤ 20000 := by omega
      have z1 : IntKind.i64.wrap ((a : Int) + (q : Int)) = (a : Int) + (q : Int) := IntWalk.i64_in _ (by omega)
      have HUN := Aside0.mk hun
      clear hcell hv ht hnode hsp hun hst hlt2 hl hle ha hq hlt
      go_wp2_with fail
      first
        | (refine HC.out.mono ?_
           rintro e w5 ⟨rfl, hb5⟩
           have HB5 := Aside0.mk hb5
           clear hb5
           go_wp2)
        | (go_region_with (go_at_call 33; refine HC.out.mono ?_; rintro e w5 ⟨rfl, hb5⟩; have HB5 := Aside0.mk hb5; clear hb5)
           all_goals go_wp2)
      all_goals
        go_ret
        rw [HUN.out]
        exact ⟨rfl, below_step hb.out HB5.out⟩

theorem rank_any (t : T) : RankOk t := T.ind rank_leaf rank_node t
/-- Of no tree: nought. -/
theorem rank_nil (key : ByteArray) (w : World) : Calls Try.prog 33 #[.nilIface, .string key] w fun e w' => e = .returned (.int .i64 0) ∧ w = w' := by
  have t1 := ta_0l
  have t2 := ta_0n
  go_enter Try.func33, Try.ntmps33
  go_wp2
  go_ret
  exact ⟨rfl, rfl⟩
end Go.Proofs.Ytnfaiblhjgmjgaa
