/-
  The program's walk over a tree's keys, where the yield writes an elder variable that is a slice of strings (or no block of cells).
-/
import Derived.Test.YtnfaiblhjgmjgaaWalk
namespace Go.Proofs.Ytnfaiblhjgmjgaa
open Go.RowKit Go.Proofs.YtnfaiblhjgmjgaaW.PrintWords

/-- All cells stand but those that hold a slice, and those too where they are no variable of []string. -/
def Sim (w w1 : World) : Prop :=
  (∀ (b : Nat) (cs : Array Value) (t : TypeId) (fr : Nat × Nat), w.heap[b]? = some (Obj.cells cs t fr) → t ≠ 35 → w1.heap[b]? = some (Obj.cells cs t fr)) ∧ (∀ (p : Addr) (u : Value), (∀ A n c, u ≠ Value.slice A n c) → w.cell? p = some u → w1.cell? p = some u)
theorem Sim.below {w w1 : World} (h : Below w.heap.size w w1) : Sim w w1 := ⟨fun _ _ _ _ hb _ => blk_below hb h, fun _ _ _ hc => pw_cell_below h hc⟩
theorem Sim.trans {w w1 w2 : World} (h : Sim w w1) (h2 : Sim w1 w2) : Sim w w2 := ⟨fun b cs t fr hb ht => h2.1 b cs t fr (h.1 b cs t fr hb ht) ht, fun p u hu hc => h2.2 p u hu (h.2 p u hu hc)⟩
structure YieldS {σ : Type} (f : Nat) (caps : Array Value) (w0 : World) (J : Nat → σ → World → Prop) (step : σ → ByteArray → σ × Bool) : Prop where
  enter : ∀ (args : Array Value) (w : World), (callFunc f args).run Try.prog w = .ok (.enter f args) w
  sim : ∀ r s w, J r s w → Sim w0 w
  mono : ∀ r s w, J (r + 1) s w → J r s w
  calls : ∀ r s k w, J (r + 1) s w → Calls Try.prog f (#[.string k] ++ caps) w fun e w' => e = .returned (.bool (step s k).2) ∧ J r (step s k).1 w'
theorem YieldS.down {σ : Type} {f : Nat} {caps : Array Value} {w0 : World} {J : Nat → σ → World → Prop} {step : σ → ByteArray → σ × Bool} (h : YieldS f caps w0 J step) (s : σ) (w : World) (r : Nat) : ∀ m, J (m + r) s w → J r s w
  | 0, hj => by rwa [Nat.zero_add] at hj
  | m + 1, hj => YieldS.down h s w r m (h.mono _ _ _ (by rwa [show m + 1 + r = m + r + 1 by omega] at hj))

/-- J r: there is room for r keys more. -/
def WalkOkS {σ : Type} (f : Nat) (caps : Array Value) (w0 : World) (J : Nat → σ → World → Prop) (step : σ → ByteArray → σ × Bool) (t : T) : Prop :=
  ∀ (v : Value) (s : σ) (w : World) (r : Nat), NodeAt w0 t v → J (t.keys.length + r) s w → Calls Try.prog 34 #[v, .func (.func f) #[] caps] w fun e w' => e = .returned (.bool (runK step s t.keys).2) ∧ J r (runK step s t.keys).1 w'

set_option maxHeartbeats 1000000 in
set_option maxRecDepth 100000 in
theorem walkS_leaf {σ : Type} (f : Nat) (caps : Array Value) (w0 : World) (J : Nat → σ → World → Prop) (step : σ → ByteArray → σ × Bool) (hy : YieldS f caps w0 J step) (ks : List ByteArray) : WalkOkS f caps w0 J step (.leaf ks) := by
  intro v s w r hn hJ
  unfold NodeAt at hn
  obtain ⟨b, A, c, rfl, hh, hc, hk⟩ := hn
  have h1w : w.cell? ⟨b, 1, none⟩ = some (.slice A ks.length c) := (blkcell ((hy.sim _ _ _ hJ).1 _ _ _ _ hh (by decide)) 1).trans rfl
  have hm : ks.length ≤ 9223372036854775807 := hk.2.1
  have hkeys : (T.leaf ks).keys = ks := by simp [T.keys]
  rw [hkeys] at hJ
  have HJ := Aside0.mk hJ
  have HY := Aside0.mk hy
  have HK := Aside0.mk hk
  have t1 := ta_ll
  have hent := hy.enter
  rw [hkeys]
  have HE : Aside0 (runK step s ks = runK step s (ks.drop 0)) := ⟨rfl⟩
  clear hkeys hh hJ hk hy hc
  go_enter Try.func34, Try.ntmps34
  go_wp2
  go_loopw [20] (fun i wr => ∃ (k : Nat) (s' : σ), k ≤ ks.length ∧ i = .int .i64 k ∧ Aside0 (J (ks.length - k + r) s' wr) ∧ Aside0 (runK step s ks = runK step s' (ks.drop k))) (fun i _ => ks.length - (intOf i).toNat)
  case atStart => exact ⟨0, s, Nat.zero_le _, rfl, ⟨by simpa using HJ.out⟩, HE⟩
  case round =>
    obtain ⟨k, s', hkl, rfl, hJ', he⟩ := hrel
    by_cases hlt : k < ks.length
    · obtain ⟨x, hx⟩ : ∃ x, ks[k]? = some x := ⟨_, List.getElem?_eq_getElem hlt⟩
      obtain ⟨ad, c', rfl, _, hK, hcell⟩ := Kd.C_get HK.out ⟨#[]⟩ (k : Int) (by omega) (by omega)
      have hK' : c' = [Value.string x] := by
        have := hK
        rw [Int.toNat_natCast, List.getD_eq_getElem?_getD, hx] at this
        exact this
      subst hK'
      have hc0 := hcell 0 _ rfl
      have hcw : wr.cell? (ad.add k) = some (.string x) := (HY.out.sim _ _ _ hJ'.out).2 _ _ (fun _ _ _ => by simp) (by simpa [Kd.string, Kd.scalar] using hc0)
      have hcall := HY.out.calls (ks.length - (k + 1) + r) s' x wr (by have := hJ'.out; rwa [show ks.length - k + r = ks.length - (k + 1) + r + 1 by omega] at this)
      have hds := Aside0.mk (drop_step ks k x hx)
      clear hc0 hcell hK hx
      cases hb : (step s' x).2 with
      | true =>
        rw [hb] at hcall
        have HC := Aside0.mk hcall
        have HB := Aside0.mk hb
        clear hcall hb
        go_wp2_with (refine HC.out.mono ?_; rintro e w' ⟨rfl, hJ2⟩; have HJ2 := Aside0.mk hJ2; clear hJ2)
        go_roundw
        case rel => exact ⟨k + 1, (step s' x).1, by omega, by go_num, HJ2, ⟨by rw [he.out, hds.out]; simp only [runK, HB.out, if_true]⟩⟩
        case measure => simp [intOf]; omega
      | false =>
        rw [hb] at hcall
        have HC := Aside0.mk hcall
        have HB := Aside0.mk hb
        clear hcall hb
        go_wp2_with (refine HC.out.mono ?_; rintro e w' ⟨rfl, hJ2⟩; have HJ2 := Aside0.mk hJ2; clear hJ2)
        go_ret
        have e : runK step s ks = ((step s' x).1, false) := by rw [he.out, hds.out]; simp [runK, HB.out]
        rw [e]
        exact ⟨rfl, HY.out.down _ _ _ _ HJ2.out⟩
    · have hkl2 : ks.drop k = [] := List.drop_eq_nil_of_le (by omega)
      have e : runK step s ks = (s', true) := by rw [he.out, hkl2]; rfl
      have E := Aside0.mk e
      clear e hkl2
      go_wp2
      go_ret
      rw [E.out]
      exact ⟨rfl, HY.out.down _ _ _ _ hJ'.out⟩

set_option maxHeartbeats 1000000 in
set_option maxRecDepth 100000 in
theorem walkS_node {σ : Type} (f : Nat) (caps : Array Value) (w0 : World) (J : Nat → σ → World → Prop) (step : σ → ByteArray → σ × Bool) (hy : YieldS f caps w0 J step) (kids : List T) (ih : ∀ t ∈ kids, WalkOkS f caps w0 J step t) : WalkOkS f caps w0 J step (.node kids) := by
  intro v s w r hn hJ
  unfold NodeAt at hn
  obtain ⟨b, A, c, vs, rfl, hh, hc, hcm, hr, hk⟩ := hn
  have h1w : w.cell? ⟨b, 1, none⟩ = some (.slice A kids.length c) := (blkcell ((hy.sim _ _ _ hJ).1 _ _ _ _ hh (by decide)) 1).trans rfl
  have hm : kids.length ≤ 9223372036854775807 := by omega
  have hkeys : (T.node kids).keys = keysL kids := by simp [T.keys]
  rw [hkeys] at hJ
  have HJ := Aside0.mk hJ
  have HY := Aside0.mk hy
  have HK := Aside0.mk hk
  have HR := Aside0.mk hr
  have IH := Aside0.mk ih
  have t1 := ta_nl
  have t2 := ta_nn
  rw [hkeys]
  have HE : Aside0 (runK step s (keysL kids) = runK step s (keysL (kids.drop 0))) := ⟨rfl⟩
  clear hkeys hh hJ hk hy hc hcm hr ih
  go_enter Try.func34, Try.ntmps34
  go_wp2
  go_loopw [37] (fun i wr => ∃ (k : Nat) (s' : σ), k ≤ kids.length ∧ i = .int .i64 k ∧ Aside0 (J ((keysL (kids.drop k)).length + r) s' wr) ∧ Aside0 (runK step s (keysL kids) = runK step s' (keysL (kids.drop k)))) (fun i _ => kids.length - (intOf i).toNat)
  case atStart => exact ⟨0, s, Nat.zero_le _, rfl, ⟨by simpa using HJ.out⟩, HE⟩
  case round =>
    obtain ⟨k, s', hkl, rfl, hJ', he⟩ := hrel
    by_cases hlt : k < kids.length
    · obtain ⟨x, hx⟩ : ∃ x, kids[k]? = some x := ⟨_, List.getElem?_eq_getElem hlt⟩
      obtain ⟨v, hv, hnode⟩ := HK.out.get k x hx
      obtain ⟨ad, rfl, hcell⟩ := HR.out (by have := HK.out.length; omega)
      have hcw : wr.cell? (ad.add k) = some v := (HY.out.sim _ _ _ hJ'.out).2 _ _ (by obtain ⟨kk, bb, e⟩ := hnode.iface; subst e; simp) (hcell k v hv)
      have hcall := IH.out x (List.mem_of_getElem? hx) v s' wr ((keysL (kids.drop (k + 1))).length + r) hnode (by have := hJ'.out; rwa [keysL_drop kids k x hx, List.length_append, Nat.add_assoc] at this)
      have hds := Aside0.mk (keysL_drop kids k x hx)
      clear hcell hx hv hnode
      cases hb : (runK step s' x.keys).2 with
      | true =>
        rw [hb] at hcall
        have HC := Aside0.mk hcall
        have HB := Aside0.mk hb
        clear hcall hb
        go_wp2_with (refine HC.out.mono ?_; rintro e w' ⟨rfl, hJ2⟩; have HJ2 := Aside0.mk hJ2; clear hJ2)
        go_roundw
        case rel => exact ⟨k + 1, (runK step s' x.keys).1, by omega, by go_num, HJ2, ⟨by rw [he.out, hds.out, runK_append, HB.out, if_pos rfl]⟩⟩
        case measure => simp [intOf]; omega
      | false =>
        rw [hb] at hcall
        have HC := Aside0.mk hcall
        have HB := Aside0.mk hb
        clear hcall hb
        go_wp2_with (refine HC.out.mono ?_; rintro e w' ⟨rfl, hJ2⟩; have HJ2 := Aside0.mk hJ2; clear hJ2)
        go_ret
        have e : runK step s (keysL kids) = ((runK step s' x.keys).1, false) := by rw [he.out, hds.out, runK_append, HB.out]; simp
        rw [e]
        exact ⟨rfl, HY.out.down _ _ _ _ HJ2.out⟩
    · have hkl2 : kids.drop k = [] := List.drop_eq_nil_of_le (by omega)
      have e : runK step s (keysL kids) = (s', true) := by rw [he.out, hkl2]; rfl
      have E := Aside0.mk e
      clear e hkl2
      go_wp2
      go_ret
      rw [E.out]
      exact ⟨rfl, HY.out.down _ _ _ _ hJ'.out⟩

theorem walkS_any {σ : Type} (f : Nat) (caps : Array Value) (w0 : World) (J : Nat → σ → World → Prop) (step : σ → ByteArray → σ × Bool) (hy : YieldS f caps w0 J step) (t : T) : WalkOkS f caps w0 J step t :=
  T.ind (walkS_leaf f caps w0 J step hy) (walkS_node f caps w0 J step hy) t

end Go.Proofs.Ytnfaiblhjgmjgaa
