/-
  The program's walk over a tree's keys, with any yield.
-/
import Derived.Test.YtnfaiblhjgmjgaaNodes
namespace Go.Proofs.Ytnfaiblhjgmjgaa
open Go.RowKit Go.Proofs.YtnfaiblhjgmjgaaW.PrintWords

theorem ta_ll (v : Value) (w : World) : (Instr.typeAssert (.iface 68 v) 58 68 true).run Try.prog w = .ok (.tuple #[v, .bool true]) w := by kernel_rfl
theorem ta_nl (v : Value) (w : World) : (Instr.typeAssert (.iface 72 v) 58 68 true).run Try.prog w = .ok (.tuple #[.pointer none, .bool false]) w := by kernel_rfl
theorem ta_nn (v : Value) (w : World) : (Instr.typeAssert (.iface 72 v) 58 72 true).run Try.prog w = .ok (.tuple #[v, .bool true]) w := by kernel_rfl
theorem ta_0l (w : World) : (Instr.typeAssert .nilIface 58 68 true).run Try.prog w = .ok (.tuple #[.pointer none, .bool false]) w := by kernel_rfl
theorem ta_0n (w : World) : (Instr.typeAssert .nilIface 58 72 true).run Try.prog w = .ok (.tuple #[.pointer none, .bool false]) w := by kernel_rfl

/-- A yield that is asked key by key till it says no. -/
def runK {σ : Type} (step : σ → ByteArray → σ × Bool) : σ → List ByteArray → σ × Bool
  | s, [] => (s, true)
  | s, k :: ks => if (step s k).2 then runK step (step s k).1 ks else ((step s k).1, false)
theorem runK_append {σ : Type} (step : σ → ByteArray → σ × Bool) : ∀ (s : σ) (xs ys : List ByteArray), runK step s (xs ++ ys) = if (runK step s xs).2 then runK step (runK step s xs).1 ys else ((runK step s xs).1, false)
  | s, [], ys => by simp [runK]
  | s, k :: xs, ys => by
    simp only [List.cons_append, runK]
    split
    · exact runK_append step _ xs ys
    · simp

structure Yield {σ : Type} (f : Nat) (caps : Array Value) (w0 : World) (J : σ → World → Prop) (step : σ → ByteArray → σ × Bool) : Prop where
  enter : ∀ (args : Array Value) (w : World), (callFunc f args).run Try.prog w = .ok (.enter f args) w
  below : ∀ s w, J s w → Below w0.heap.size w0 w
  calls : ∀ s k w, J s w → Calls Try.prog f (#[.string k] ++ caps) w fun e w' => e = .returned (.bool (step s k).2) ∧ J (step s k).1 w'

def WalkOk {σ : Type} (f : Nat) (caps : Array Value) (w0 : World) (J : σ → World → Prop) (step : σ → ByteArray → σ × Bool) (t : T) : Prop :=
  ∀ (v : Value) (s : σ) (w : World), NodeAt w0 t v → J s w → Calls Try.prog 34 #[v, .func (.func f) #[] caps] w fun e w' => e = .returned (.bool (runK step s t.keys).2) ∧ J (runK step s t.keys).1 w'

theorem drop_step {α : Type} (l : List α) (k : Nat) (x : α) (h : l[k]? = some x) : l.drop k = x :: l.drop (k + 1) := by
  obtain ⟨hk, rfl⟩ := List.getElem?_eq_some_iff.1 h
  exact List.drop_eq_getElem_cons hk

set_option maxHeartbeats 1000000 in
set_option maxRecDepth 100000 in
theorem walk_leaf {σ : Type} (f : Nat) (caps : Array Value) (w0 : World) (J : σ → World → Prop) (step : σ → ByteArray → σ × Bool) (hy : Yield f caps w0 J step) (ks : List ByteArray) : WalkOk f caps w0 J step (.leaf ks) := by
  intro v s w hn hJ
  unfold NodeAt at hn
  obtain ⟨b, A, c, rfl, hh, hc, hk⟩ := hn
  have h1 : w0.cell? ⟨b, 1, none⟩ = some (.slice A ks.length c) := (blkcell hh 1).trans rfl
  have h1w : w.cell? ⟨b, 1, none⟩ = some (.slice A ks.length c) := pw_cell_below (hy.below _ _ hJ) h1
  have hm : ks.length ≤ 9223372036854775807 := hk.2.1
  have HJ := Aside0.mk hJ
  have HY := Aside0.mk hy
  have HK := Aside0.mk hk
  have t1 := ta_ll
  have hent := hy.enter
  have hkeys : (T.leaf ks).keys = ks := by simp [T.keys]
  rw [hkeys]
  have HE : Aside0 (runK step s ks = runK step s (ks.drop 0)) := ⟨rfl⟩
  clear hkeys hh hJ hk h1 hy hc
  go_enter Try.func34, Try.ntmps34
  go_wp2
  go_loopw [20] (fun i wr => ∃ (k : Nat) (s' : σ), k ≤ ks.length ∧ i = .int .i64 k ∧ Aside0 (J s' wr) ∧ Aside0 (runK step s ks = runK step s' (ks.drop k))) (fun i _ => ks.length - (intOf i).toNat)
  case atStart => exact ⟨0, s, Nat.zero_le _, rfl, HJ, HE⟩
  case round =>
    obtain ⟨k, s', hkl, rfl, hJ', he⟩ := hrel
    by_cases hlt : k < ks.length
    · obtain ⟨x, hx⟩ : ∃ x, ks[k]? = some x := ⟨_, List.getElem?_eq_getElem hlt⟩
      obtain ⟨ad, c', rfl, _, hK, hcell⟩ := Kd.C_get HK.out ⟨#[]⟩ (k : Int) (by omega) (by omega)
      have hK' : c' = [Value.string x] := by
        have := hK
        rw [Int.toNat_natCast, List.getD_eq_getElem?_getD, hx] at this
        exact this
      subst hK'
      have hc0 := hcell 0 _ rfl
      have hcw : wr.cell? (ad.add k) = some (.string x) := pw_cell_below (HY.out.below _ _ hJ'.out) (by simpa [Kd.string, Kd.scalar] using hc0)
      have hcall := HY.out.calls s' x wr hJ'.out
      have hds := Aside0.mk (drop_step ks k x hx)
      clear hc0 hcell hK hx
      cases hb : (step s' x).2 with
      | true =>
        rw [hb] at hcall
        have HC := Aside0.mk hcall
        have HB := Aside0.mk hb
        clear hcall hb
        go_wp2_with (refine HC.out.mono ?_; rintro e w' ⟨rfl, hJ2⟩; have HJ2 := Aside0.mk hJ2; clear hJ2)
        go_roundw
        case rel => exact ⟨k + 1, (step s' x).1, by omega, by go_num, HJ2, ⟨by rw [he.out, hds.out]; simp only [runK, HB.out, if_true]⟩⟩
        case measure => simp [intOf]; omega
      | false =>
        rw [hb] at hcall
        have HC := Aside0.mk hcall
        have HB := Aside0.mk hb
        clear hcall hb
        go_wp2_with (refine HC.out.mono ?_; rintro e w' ⟨rfl, hJ2⟩; have HJ2 := Aside0.mk hJ2; clear hJ2)
        go_ret
        have e : runK step s ks = ((step s' x).1, false) := by rw [he.out, hds.out]; simp [runK, HB.out]
        rw [e]
        exact ⟨rfl, HJ2.out⟩
    · have hkl2 : ks.drop k = [] := List.drop_eq_nil_of_le (by omega)
      have e : runK step s ks = (s', true) := by rw [he.out, hkl2]; rfl
      have E := Aside0.mk e
      clear e hkl2
      go_wp2
      go_ret
      rw [E.out]
      exact ⟨rfl, hJ'.out⟩

theorem keysL_drop (kids : List T) (k : Nat) (t : T) (h : kids[k]? = some t) : keysL (kids.drop k) = t.keys ++ keysL (kids.drop (k + 1)) := by
  rw [drop_step kids k t h]; simp [keysL]

set_option maxHeartbeats 1000000 in
set_option maxRecDepth 100000 in
theorem walk_node {σ : Type} (f : Nat) (caps : Array Value) (w0 : World) (J : σ → World → Prop) (step : σ → ByteArray → σ × Bool) (hy : Yield f caps w0 J step) (kids : List T) (ih : ∀ t ∈ kids, WalkOk f caps w0 J step t) : WalkOk f caps w0 J step (.node kids) := by
  intro v s w hn hJ
  unfold NodeAt at hn
  obtain ⟨b, A, c, vs, rfl, hh, hc, hcm, hr, hk⟩ := hn
  have h1 : w0.cell? ⟨b, 1, none⟩ = some (.slice A kids.length c) := (blkcell hh 1).trans rfl
  have h1w : w.cell? ⟨b, 1, none⟩ = some (.slice A kids.length c) := pw_cell_below (hy.below _ _ hJ) h1
  have hm : kids.length ≤ 9223372036854775807 := by omega
  have HJ := Aside0.mk hJ
  have HY := Aside0.mk hy
  have HK := Aside0.mk hk
  have HR := Aside0.mk hr
  have IH := Aside0.mk ih
  have t1 := ta_nl
  have t2 := ta_nn
  have hkeys : (T.node kids).keys = keysL kids := by simp [T.keys]
  rw [hkeys]
  have HE : Aside0 (runK step s (keysL kids) = runK step s (keysL (kids.drop 0))) := ⟨rfl⟩
  clear hkeys hh hJ hk h1 hy hc hcm hr ih
  go_enter Try.func34, Try.ntmps34
  go_wp2
  go_loopw [37] (fun i wr => ∃ (k : Nat) (s' : σ), k ≤ kids.length ∧ i = .int .i64 k ∧ Aside0 (J s' wr) ∧ Aside0 (runK step s (keysL kids) = runK step s' (keysL (kids.drop k)))) (fun i _ => kids.length - (intOf i).toNat)
  case atStart => exact ⟨0, s, Nat.zero_le _, rfl, HJ, HE⟩
  case round =>
    obtain ⟨k, s', hkl, rfl, hJ', he⟩ := hrel
    by_cases hlt : k < kids.length
    · obtain ⟨x, hx⟩ : ∃ x, kids[k]? = some x := ⟨_, List.getElem?_eq_getElem hlt⟩
      obtain ⟨v, hv, hnode⟩ := HK.out.get k x hx
      obtain ⟨ad, rfl, hcell⟩ := HR.out (by have := HK.out.length; omega)
      have hcw : wr.cell? (ad.add k) = some v := pw_cell_below (HY.out.below _ _ hJ'.out) (hcell k v hv)
      have hcall := IH.out x (List.mem_of_getElem? hx) v s' wr hnode hJ'.out
      have hds := Aside0.mk (keysL_drop kids k x hx)
      clear hcell hx hv hnode
      cases hb : (runK step s' x.keys).2 with
      | true =>
        rw [hb] at hcall
        have HC := Aside0.mk hcall
        have HB := Aside0.mk hb
        clear hcall hb
        go_wp2_with (refine HC.out.mono ?_; rintro e w' ⟨rfl, hJ2⟩; have HJ2 := Aside0.mk hJ2; clear hJ2)
        go_roundw
        case rel => exact ⟨k + 1, (runK step s' x.keys).1, by omega, by go_num, HJ2, ⟨by rw [he.out, hds.out, runK_append, HB.out, if_pos rfl]⟩⟩
        case measure => simp [intOf]; omega
      | false =>
        rw [hb] at hcall
        have HC := Aside0.mk hcall
        have HB := Aside0.mk hb
        clear hcall hb
        go_wp2_with (refine HC.out.mono ?_; rintro e w' ⟨rfl, hJ2⟩; have HJ2 := Aside0.mk hJ2; clear hJ2)
        go_ret
        have e : runK step s (keysL kids) = ((runK step s' x.keys).1, false) := by rw [he.out, hds.out, runK_append, HB.out]; simp
        rw [e]
        exact ⟨rfl, HJ2.out⟩
    · have hkl2 : kids.drop k = [] := List.drop_eq_nil_of_le (by omega)
      have e : runK step s (keysL kids) = (s', true) := by rw [he.out, hkl2]; rfl
      have E := Aside0.mk e
      clear e hkl2
      go_wp2
      go_ret
      rw [E.out]
      exact ⟨rfl, hJ'.out⟩

theorem walk_any {σ : Type} (f : Nat) (caps : Array Value) (w0 : World) (J : σ → World → Prop) (step : σ → ByteArray → σ × Bool) (hy : Yield f caps w0 J step) (t : T) : WalkOk f caps w0 J step t :=
  T.ind (walk_leaf f caps w0 J step hy) (walk_node f caps w0 J step hy) t

set_option maxHeartbeats 400000 in
set_option maxRecDepth 100000 in
/-- No tree: nothing is asked. -/
theorem walk_nil (fv : Value) (w : World) : Calls Try.prog 34 #[.nilIface, fv] w fun e w' => e = .returned (.bool true) ∧ w = w' := by
  have t1 := ta_0l
  have t2 := ta_0n
  go_enter Try.func34, Try.ntmps34
  go_wp2
  go_ret
  exact ⟨rfl, rfl⟩
end Go.Proofs.Ytnfaiblhjgmjgaa
