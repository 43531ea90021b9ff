/-
  The program's tree nodes: newLeaf, keys, least, newInner.
-/
import Derived.Test.YtnfaiblhjgmjgaaBase
import Derived.Outline
namespace Go.Proofs.Ytnfaiblhjgmjgaa
open Go.RowKit Go.Proofs.YtnfaiblhjgmjgaaW.PrintWords

set_option maxHeartbeats 400000 in
theorem newLeaf_any (A : Option Addr) (n c : Nat) (w : World) :
    Calls Try.prog 39 #[.slice A n c] w fun e w' => e = .returned (.pointer (some ⟨w.heap.size, 0, none⟩)) ∧ w' = w.alloc (.cells #[.int .i64 n, .slice A n c] 99) := by
  go_enter Try.func39, Try.ntmps39
  go_wp2
  go_ret
  exact ⟨rfl, rfl⟩

set_option maxHeartbeats 400000 in
theorem keys_any (n : Int) (w : World) :
    Calls Try.prog 104 #[.agg #[.int .i64 n]] w fun e w' => e = .returned (.int .i64 n) ∧ w.alloc (.cells #[.int .i64 n] 75) = w' := by
  go_enter Try.func104, Try.ntmps104
  go_wp2
  go_ret
  exact ⟨rfl, rfl⟩

theorem m_least_leaf (a : Addr) (w : World) : (method 249 68 (.pointer (some a)) "loop.example/s01136/impl.least").run Try.prog w = .ok (105, .pointer (some a)) w := by kernel_rfl
theorem m_least_inner (a : Addr) (w : World) : (method 249 72 (.pointer (some a)) "loop.example/s01136/impl.least").run Try.prog w = .ok (106, .pointer (some a)) w := by kernel_rfl
set_option maxRecDepth 10000 in
theorem m_keys_inner (b : Nat) (w : World) (v : Value) (h : w.cell? ⟨b, 0, none⟩ = some v) : (method 249 72 (.pointer (some ⟨b, 0, none⟩)) "loop.example/s01136/impl.keys").run Try.prog w = .ok (104, .agg #[v]) w := by
  obtain ⟨i, hi, hm⟩ : ∃ i, Try.prog.info? 72 = some i ∧ (i.methods.find? (·.name == "loop.example/s01136/impl.keys")).map (fun m => (m.path, m.func)) = some (#[⟨78, 0, true⟩], some (104, false)) := ⟨_, rfl, by kernel_rfl⟩
  obtain ⟨⟨nm, sig, path, func⟩, hm, hmm⟩ := Option.map_eq_some_iff.1 hm
  simp only [Prod.mk.injEq] at hmm
  obtain ⟨rfl, rfl⟩ := hmm
  unfold method
  simp only [Sem.run_bind, typeInfo, hi, Sem.run_pure, Result.andThen_ok, hm]
  unfold follow
  go_simp
  unfold follow
  go_simp
  unfold receiverAt
  simp only [Place.get]
  go_simp
set_option maxRecDepth 10000 in
theorem m_keys_leaf (b : Nat) (w : World) (v : Value) (h : w.cell? ⟨b, 0, none⟩ = some v) : (method 249 68 (.pointer (some ⟨b, 0, none⟩)) "loop.example/s01136/impl.keys").run Try.prog w = .ok (104, .agg #[v]) w := by
  obtain ⟨i, hi, hm⟩ : ∃ i, Try.prog.info? 68 = some i ∧ (i.methods.find? (·.name == "loop.example/s01136/impl.keys")).map (fun m => (m.path, m.func)) = some (#[⟨99, 0, true⟩], some (104, false)) := ⟨_, rfl, by kernel_rfl⟩
  obtain ⟨⟨nm, sig, path, func⟩, hm, hmm⟩ := Option.map_eq_some_iff.1 hm
  simp only [Prod.mk.injEq] at hmm
  obtain ⟨rfl, rfl⟩ := hmm
  unfold method
  simp only [Sem.run_bind, typeInfo, hi, Sem.run_pure, Result.andThen_ok, hm]
  unfold follow
  go_simp
  unfold follow
  go_simp
  unfold receiverAt
  simp only [Place.get]
  go_simp

set_option maxHeartbeats 400000 in
theorem least_leaf0 (b : Nat) (A : Option Addr) (c : Nat) (w : World) (h0 : w.cell? ⟨b, 1, none⟩ = some (.slice A 0 c)) :
    Calls Try.prog 105 #[.pointer (some ⟨b, 0, none⟩)] w fun e w' => e = .returned (.string ⟨#[]⟩) ∧ w = w' := by
  go_enter Try.func105, Try.ntmps105
  go_wp2
  go_ret
  exact ⟨rfl, rfl⟩
set_option maxHeartbeats 400000 in
theorem least_leaf1 (b : Nat) (ad : Addr) (n c : Nat) (w : World) (h0 : w.cell? ⟨b, 1, none⟩ = some (.slice (some ad) n c)) (hn0 : 0 < n) (s : ByteArray) (hs : w.cell? ad = some (.string s)) :
    Calls Try.prog 105 #[.pointer (some ⟨b, 0, none⟩)] w fun e w' => e = .returned (.string s) ∧ w = w' := by
  have hz : ((n : Int) == 0) = false := by simp; omega
  go_enter Try.func105, Try.ntmps105
  go_wp2
  go_ret
  exact ⟨rfl, rfl⟩
set_option maxHeartbeats 400000 in
set_option maxRecDepth 100000 in
theorem least_inner_leaf (b : Nat) (ad : Addr) (n c : Nat) (w : World) (h0 : w.cell? ⟨b, 1, none⟩ = some (.slice (some ad) n c)) (hn0 : 0 < n) (b' : Nat) (hs : w.cell? ad = some (.iface 68 (.pointer (some ⟨b', 0, none⟩))))
    (s : ByteArray) (hc : Hid (Calls Try.prog 105 #[.pointer (some ⟨b', 0, none⟩)] w fun e w' => e = .returned (.string s) ∧ w = w')) :
    Calls Try.prog 106 #[.pointer (some ⟨b, 0, none⟩)] w fun e w' => e = .returned (.string s) ∧ w = w' := by
  have hm := m_least_leaf
  go_enter Try.func106, Try.ntmps106
  go_wp2_with (refine (hc.out).mono ?_; rintro e w' ⟨rfl, rfl⟩)
  go_ret
  exact ⟨rfl, rfl⟩
set_option maxHeartbeats 400000 in
set_option maxRecDepth 100000 in
theorem least_inner_inner (b : Nat) (ad : Addr) (n c : Nat) (w : World) (h0 : w.cell? ⟨b, 1, none⟩ = some (.slice (some ad) n c)) (hn0 : 0 < n) (b' : Nat) (hs : w.cell? ad = some (.iface 72 (.pointer (some ⟨b', 0, none⟩))))
    (s : ByteArray) (hc : Hid (Calls Try.prog 106 #[.pointer (some ⟨b', 0, none⟩)] w fun e w' => e = .returned (.string s) ∧ w = w')) :
    Calls Try.prog 106 #[.pointer (some ⟨b, 0, none⟩)] w fun e w' => e = .returned (.string s) ∧ w = w' := by
  have hm := m_least_inner
  go_enter Try.func106, Try.ntmps106
  go_wp2_with (refine (hc.out).mono ?_; rintro e w' ⟨rfl, rfl⟩)
  go_ret
  exact ⟨rfl, rfl⟩


/-- The method least of a node, whatever it is. -/
def LeastOf (w : World) (t : T) (k b : Nat) : Prop :=
  (k = 68 ∧ Calls Try.prog 105 #[.pointer (some ⟨b, 0, none⟩)] w fun e w' => e = .returned (.string t.least) ∧ w = w') ∨
  (k = 72 ∧ Calls Try.prog 106 #[.pointer (some ⟨b, 0, none⟩)] w fun e w' => e = .returned (.string t.least) ∧ w = w')
theorem least_any : ∀ (t : T) (w : World) (k b : Nat), NodeAt w t (.iface k (.pointer (some ⟨b, 0, none⟩))) → t.full → LeastOf w t k b
  | .leaf ks, w, k, b, h, _ => by
    unfold NodeAt at h
    obtain ⟨b', A, c, e, hh, hc, hk⟩ := h
    injection e with e1 e2
    injection e2 with e2
    injection e2 with e2
    injection e2 with e2
    subst e1 e2
    refine .inl ⟨rfl, ?_⟩
    have h1 := (blkcell hh 1).trans rfl
    cases ks with
    | nil => exact least_leaf0 b A c w h1
    | cons s ks =>
      obtain ⟨ad, c', e, hl, hK, hcell⟩ := Kd.C_get hk ⟨#[]⟩ 0 (by omega) (by simp)
      subst e
      have hK' : c' = [Value.string s] := hK
      subst hK'
      have := hcell 0 _ rfl
      exact least_leaf1 b ad _ c w h1 (by simp) s (by simpa [Addr.add] using this)
  | .node [], w, k, b, h, hf => by
    unfold T.full at hf
    exact absurd rfl hf.1
  | .node (t :: ts), w, k, b, h, hf => by
    unfold T.full fullL at hf
    unfold NodeAt at h
    obtain ⟨b', A, c, vs, e, hh, hc, hm, hr, hk⟩ := h
    injection e with e1 e2
    injection e2 with e2
    injection e2 with e2
    injection e2 with e2
    subst e1 e2
    have hlen := hk.length
    unfold NodesAt at hk
    obtain ⟨v, r, rfl, hv, _⟩ := hk
    obtain ⟨k2, b2, rfl⟩ := hv.iface
    obtain ⟨ad, rfl, hcell⟩ := hr (by simp)
    have hc0 := hcell 0 _ rfl
    have h1 := (blkcell hh 1).trans rfl
    refine .inr ⟨rfl, ?_⟩
    have hl : (T.node (t :: ts)).least = t.least := by simp [T.least, leastL]
    rw [hl]
    rcases least_any t w k2 b2 hv hf.2.1 with ⟨rfl, hcall⟩ | ⟨rfl, hcall⟩
    · exact least_inner_leaf b ad _ c w h1 (by simp) b2 (by simpa [Addr.add] using hc0) _ hcall
    · exact least_inner_inner b ad _ c w h1 (by simp) b2 (by simpa [Addr.add] using hc0) _ hcall

theorem least_l {w : World} {t : T} {b : Nat} (h : NodeAt w t (.iface 68 (.pointer (some ⟨b, 0, none⟩)))) (hf : t.full) (n : Nat) :
    Calls Try.prog 105 #[.pointer (some ⟨b, 0, none⟩)] (w.drewN n) fun e w2 => e = .returned (.string t.least) ∧ w2 = w.drewN n := by
  rcases least_any t (w.drewN n) _ b (NodeAt.below (pw_below_drewN (Below.refl _ _) n) t _ h) hf with ⟨_, h⟩ | ⟨h, _⟩
  · exact h.mono (fun _ _ q => ⟨q.1, q.2.symm⟩)
  · exact absurd h (by decide)
theorem least_n {w : World} {t : T} {b : Nat} (h : NodeAt w t (.iface 72 (.pointer (some ⟨b, 0, none⟩)))) (hf : t.full) (n : Nat) :
    Calls Try.prog 106 #[.pointer (some ⟨b, 0, none⟩)] (w.drewN n) fun e w2 => e = .returned (.string t.least) ∧ w2 = w.drewN n := by
  rcases least_any t (w.drewN n) _ b (NodeAt.below (pw_below_drewN (Below.refl _ _) n) t _ h) hf with ⟨h, _⟩ | ⟨_, h⟩
  · exact absurd h (by decide)
  · exact h.mono (fun _ _ q => ⟨q.1, q.2.symm⟩)
theorem cntL_snoc : ∀ (a : Int) (l : List T) (t : T), cntL a (l ++ [t]) = wrap64 (cntL a l + T.cnt t)
  | a, [], t => by simp [cntL]
  | a, s :: l, t => by simp only [List.cons_append, cntL]; exact cntL_snoc _ l t
theorem cntL_take (l : List T) (k : Nat) (t : T) (h : l[k]? = some t) : cntL 0 (l.take (k + 1)) = wrap64 (cntL 0 (l.take k) + T.cnt t) := by
  rw [List.take_add_one, h]
  exact cntL_snoc _ _ _
theorem nodeAt_cell0 {w : World} {t : T} {k b : Nat} (h : NodeAt w t (.iface k (.pointer (some ⟨b, 0, none⟩)))) : (k = 68 ∨ k = 72) ∧ w.cell? ⟨b, 0, none⟩ = some (.int .i64 t.cnt) := by
  cases t with
  | leaf ks =>
    unfold NodeAt at h
    obtain ⟨b', A, c, e, hh, hc, hk⟩ := h
    injection e with e1 e2
    injection e2 with e2
    injection e2 with e2
    injection e2 with e2
    subst e1 e2
    exact ⟨.inl rfl, by rw [blkcell hh 0]; simp [T.cnt]⟩
  | node ks =>
    unfold NodeAt at h
    obtain ⟨b', A, c, vs, e, hh, hc, hk⟩ := h
    injection e with e1 e2
    injection e2 with e2
    injection e2 with e2
    injection e2 with e2
    subst e1 e2
    exact ⟨.inr rfl, by rw [blkcell hh 0]; simp [T.cnt]⟩

set_option maxHeartbeats 1000000 in
set_option maxRecDepth 100000 in
theorem newInner_any (A : Option Addr) (c : Nat) (kids : List T) (vs : List Value) (w : World) (hm : kids.length ≤ 9223372036854775807) (hr : RawAt w A vs) (hn : NodesAt w kids vs) :
    Calls Try.prog 44 #[.slice A kids.length c] w fun e w' => ∃ b, e = .returned (.pointer (some ⟨b, 0, none⟩)) ∧ w.heap.size ≤ b ∧ Below w.heap.size w w' ∧ w'.heap[b]? = some (.cells #[.int .i64 (cntL 0 kids), .slice A kids.length c] 78 (0, 0)) := by
  have hml := m_keys_leaf
  have hmi := m_keys_inner
  go_enter Try.func44, Try.ntmps44
  go_wp2
  go_loopw [11] (fun i wr => ∃ k : Nat, k ≤ kids.length ∧ i = .int .i64 k ∧ Aside0 (Below w.heap.size w wr) ∧ Aside0 (wr.heap[w.heap.size]? = some (.cells #[.int .i64 (cntL 0 (kids.take k)), .slice A kids.length c] 78 (0, 0)))) (fun i _ => kids.length - (intOf i).toNat)
  case atStart => exact ⟨0, Nat.zero_le _, rfl, ⟨(Below.refl _ _).alloc (Nat.le_refl _) _⟩, ⟨(heap_alloc_new w _).trans (by simp [cntL])⟩⟩
  case round =>
    obtain ⟨k, hk, rfl, hb, hg⟩ := hrel
    have hg0 : wr.cell? ⟨w.heap.size, 0, none⟩ = some (.int .i64 (cntL 0 (kids.take k))) := (blkcell hg.out 0).trans rfl
    have hfz : wr.frozen? ⟨w.heap.size, 0, none⟩ = false := by simp [World.frozen?, hg.out]
    by_cases hlt : k < kids.length
    · obtain ⟨t, ht⟩ : ∃ t, kids[k]? = some t := ⟨_, List.getElem?_eq_getElem hlt⟩
      obtain ⟨v, hv, hnode⟩ := hn.get k t ht
      obtain ⟨ad, rfl, hcell⟩ := hr (by have := hn.length; omega)
      obtain ⟨kk, b', rfl⟩ := hnode.iface
      have hc1 : wr.cell? (ad.add k) = some (.iface kk (.pointer (some ⟨b', 0, none⟩))) := pw_cell_below hb.out (hcell k _ hv)
      obtain ⟨hkk, hc0⟩ := nodeAt_cell0 hnode
      have hc2 : wr.cell? ⟨b', 0, none⟩ = some (.int .i64 t.cnt) := pw_cell_below hb.out hc0
      have hcnt := Aside0.mk (cntL_take kids k t ht)
      have hsz : w.heap.size < wr.heap.size := (Array.getElem?_eq_some_iff.1 hg.out).1
      clear hc0 hcell hv ht hr hn hnode
      rcases hkk with rfl | rfl
      all_goals
        go_wp2
        go_region_with (go_at_call 104; refine (keys_any _ _).mono ?_; rintro e w' ⟨rfl, rfl⟩)
        all_goals
          go_wp2
          go_roundw
          case rel =>
            refine ⟨k + 1, by omega, by go_num, ⟨?_⟩, ⟨?_⟩⟩
            · repeat (first | exact hb.out | refine below_drew ?_ | refine below_alloc ?_ _ | refine below_set ?_ (Nat.le_refl _))
            · rw [hcnt.out]; exact blk_drew (blk_alloc (blk_put hg.out 0 _ rfl) _)
          case measure => simp [intOf]; omega
    · obtain rfl : k = kids.length := by omega
      have hgg := Aside0.mk (hg.out)
      go_wp2
      go_ret
      refine ⟨_, rfl, Nat.le_refl _, hb.out, ?_⟩
      have := hgg.out
      rwa [List.take_length] at this
end Go.Proofs.Ytnfaiblhjgmjgaa
