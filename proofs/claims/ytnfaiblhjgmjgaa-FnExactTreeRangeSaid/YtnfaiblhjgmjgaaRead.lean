/-
  The program's reader of nodes: what it computes.
-/
import Derived.Test.YtnfaiblhjgmjgaaRoot
import Derived.Test.YtnfaiblhjgmjgaaPFnTreex0
import Derived.Deep.QuietTactic
import Derived.BigQuiet
namespace Go.Proofs.Ytnfaiblhjgmjgaa
open Go.RowKit Go.Proofs.YtnfaiblhjgmjgaaW.PrintWords


def rdKids (rd : Nat → Option (T × Nat × Nat)) (keys : List ByteArray) : Nat → List Int → List T → Nat → Nat → Option (List T × Nat × Nat)
  | _, [], acc, level, next => some (acc, level, next)
  | i, a :: rest, acc, level, next =>
    if a ≠ (next : Int) then none else
    match rd next with
    | none => none
    | some (k, below, next') => if 0 < i ∧ (below ≠ level ∨ k.least ≠ keys.getD (i - 1) ⟨#[]⟩) then none else rdKids rd keys (i + 1) rest (acc ++ [k]) below next'

def leafBad (deep : Nat) (t : TN) : Prop := 0 < t.f2.length ∨ 4 < t.f1.length ∨ t.f3 ≠ t.f1.length ∨ 0 < deep ∧ t.f1.length < 2
def nodeBad (t : TN) : Prop := t.f2.length < 2 ∨ 4 < t.f2.length ∨ t.f1.length + 1 ≠ t.f2.length
instance (deep : Nat) (t : TN) : Decidable (leafBad deep t) := by unfold leafBad; infer_instance
instance (t : TN) : Decidable (nodeBad t) := by unfold nodeBad; infer_instance

def rdFin (n : Int) : Option (List T × Nat × Nat) → Option (T × Nat × Nat)
  | none => none
  | some (kids, level, next') => if cntL 0 kids ≠ n then none else some (.node kids, level + 1, next')
/-- fuel: how deep it may still go, 31 at the root. -/
def rdN (ns : List TN) : Nat → Nat → Option (T × Nat × Nat)
  | 0, _ => none
  | f + 1, next =>
    match ns[next]? with
    | none => none
    | some t =>
      if t.f0 then (if leafBad (30 - f) t then none else some (.leaf t.f1, 0, next + 1))
      else if nodeBad t then none
      else rdFin t.f3 (rdKids (rdN ns f) t.f1 0 t.f2 [] 0 (next + 1))

theorem leaf_good {deep : Nat} {t : TN} (h : ¬ leafBad deep t) : t.f2.length ≤ 0 ∧ t.f1.length ≤ 4 ∧ t.f3 = t.f1.length ∧ (0 < deep → 2 ≤ t.f1.length) := by
  unfold leafBad at h
  refine ⟨?_, ?_, ?_, ?_⟩
  · rcases Nat.lt_or_ge 0 t.f2.length with q | q
    · exact absurd (.inl q) h
    · exact q
  · rcases Nat.lt_or_ge 4 t.f1.length with q | q
    · exact absurd (.inr (.inl q)) h
    · exact q
  · exact Decidable.byContradiction (fun q => h (.inr (.inr (.inl q))))
  · intro hd
    rcases Nat.lt_or_ge t.f1.length 2 with q | q
    · exact absurd (.inr (.inr (.inr ⟨hd, q⟩))) h
    · exact q
theorem node_good {t : TN} (h : ¬ nodeBad t) : 2 ≤ t.f2.length ∧ t.f2.length ≤ 4 ∧ t.f1.length + 1 = t.f2.length := by
  unfold nodeBad at h
  omega

structure RdIn (w0 w : World) (A : Option Addr) (c : Nat) (ns : List TN) (g next : Nat) : Prop where
  below : Below w0.heap.size w0 w
  ge : w0.heap.size ≤ g
  blk : w.heap[g]? = some (.cells #[.slice A ns.length c, .int .i64 next] 92 (0, 0))
  ns : Kd.C kTN w0 A ns.length ns

def RdYes (w0 w : World) (A : Option Addr) (c : Nat) (ns : List TN) (g : Nat) (t : T) (lv nx : Nat) (e : Ending) (w' : World) : Prop :=
  ∃ v, e = .returned (.tuple #[v, .int .i64 lv]) ∧ w.grownBy w' (some g) ∧ w'.heap[g]? = some (.cells #[.slice A ns.length c, .int .i64 nx] 92 (0, 0)) ∧ Stay w0 w.heap.size none w' (fun W => NodeAt W t v)
def RdNo (w : World) (g : Nat) (e : Ending) (w' : World) : Prop := e = .returned (.tuple #[.nilIface, .int .i64 0]) ∧ w.grownBy w' (some g)

def RdPost (w0 w : World) (A : Option Addr) (c : Nat) (ns : List TN) (g : Nat) (e : Ending) (w' : World) : Option (T × Nat × Nat) → Prop
  | none => RdNo w g e w'
  | some (t, lv, nx) => RdYes w0 w A c ns g t lv nx e w'
def RdOk (ns : List TN) (fuel : Nat) : Prop := ∀ (w0 w : World) (A : Option Addr) (c : Nat) (g next : Nat), RdIn w0 w A c ns g next → next ≤ ns.length →
  Calls Try.prog 51 #[.pointer (some ⟨g, 0, none⟩), .int .i64 ((31 - fuel : Nat) : Int)] w (fun e w' => RdPost w0 w A c ns g e w' (rdN ns fuel next))

theorem fullL_append : ∀ (a b : List T), fullL (a ++ b) ↔ fullL a ∧ fullL b
  | [], b => by simp [fullL]
  | t :: a, b => by simp only [List.cons_append, fullL, fullL_append a b, and_assoc]
theorem rdKids_props (rd : Nat → Option (T × Nat × Nat)) (keys : List ByteArray) (N F : Nat) (hrd : ∀ n t lv nx, rd n = some (t, lv, nx) → T.full t ∧ nx ≤ N ∧ lv ≤ F) :
    ∀ (rest : List Int) (i : Nat) (acc : List T) (lv nx : Nat) (kids : List T) (lv' nx' : Nat), rdKids rd keys i rest acc lv nx = some (kids, lv', nx') → fullL acc → nx ≤ N → lv ≤ F →
      fullL kids ∧ kids.length = acc.length + rest.length ∧ nx' ≤ N ∧ lv' ≤ F
  | [], i, acc, lv, nx, kids, lv', nx', h, h1, h2, h3 => by
    simp only [rdKids, Option.some.injEq, Prod.mk.injEq] at h
    obtain ⟨rfl, rfl, rfl⟩ := h
    exact ⟨h1, by simp, h2, h3⟩
  | a :: rest, i, acc, lv, nx, kids, lv', nx', h, h1, h2, h3 => by
    unfold rdKids at h
    split at h
    · simp at h
    · split at h
      · simp at h
      · rename_i k below next' hk
        split at h
        · simp at h
        · obtain ⟨q1, q2, q3⟩ := hrd _ _ _ _ hk
          obtain ⟨r1, r2, r3, r4⟩ := rdKids_props rd keys N F hrd rest (i + 1) (acc ++ [k]) below next' kids lv' nx' h ((fullL_append _ _).2 ⟨h1, by simp [fullL, q1]⟩) q2 q3
          exact ⟨r1, by rw [r2]; simp; omega, r3, r4⟩
theorem rdN_props (ns : List TN) : ∀ (f n : Nat) (t : T) (lv nx : Nat), rdN ns f n = some (t, lv, nx) → T.full t ∧ nx ≤ ns.length ∧ lv + 1 ≤ f
  | 0, n, t, lv, nx, h => by simp [rdN] at h
  | f + 1, n, t, lv, nx, h => by
    unfold rdN at h
    split at h
    · simp at h
    · rename_i x hx
      have hlt : n < ns.length := (List.getElem?_eq_some_iff.1 hx).1
      split at h
      · split at h
        · simp at h
        · simp only [Option.some.injEq, Prod.mk.injEq] at h
          obtain ⟨rfl, rfl, rfl⟩ := h
          exact ⟨by simp [T.full], hlt, by omega⟩
      · split at h
        · simp at h
        · rename_i hb
          unfold rdFin at h
          split at h
          · simp at h
          · rename_i kids level next' hk
            split at h
            · simp at h
            · simp only [Option.some.injEq, Prod.mk.injEq] at h
              obtain ⟨rfl, rfl, rfl⟩ := h
              obtain ⟨g1, g2, g3⟩ := node_good hb
              cases f with
              | zero =>
                unfold rdKids at hk
                have : x.f2 ≠ [] := fun e => by rw [e] at g1; simp at g1
                split at hk
                · rename_i e; exact absurd e this
                · split at hk
                  · simp at hk
                  · simp [rdN] at hk
              | succ f =>
                obtain ⟨r1, r2, r3, r4⟩ := rdKids_props (rdN ns (f + 1)) x.f1 ns.length f (fun n t lv nx h => by have := rdN_props ns (f + 1) n t lv nx h; exact ⟨this.1, this.2.1, by omega⟩) x.f2 0 [] 0 (n + 1) kids level next' hk (by simp [fullL]) (by omega) (by omega)
                refine ⟨?_, r3, by omega⟩
                unfold T.full
                exact ⟨fun e => by rw [e] at r2; simp at r2; omega, r1⟩

set_option maxHeartbeats 400000 in
set_option maxRecDepth 100000 in
/-- No node is left, or too deep. -/
theorem node_end (w0 w : World) (A : Option Addr) (c : Nat) (ns : List TN) (g next deep : Nat) (hi : RdIn w0 w A c ns g next) (hn : ns.length ≤ 5000) (h : ns.length ≤ next ∨ 30 < deep) (hnx : next ≤ 5000) (hd : deep ≤ 31) :
    Calls Try.prog 51 #[.pointer (some ⟨g, 0, none⟩), .int .i64 (deep : Int)] w (RdNo w g) := by
  have h0 : w.cell? ⟨g, 0, none⟩ = some (.slice A ns.length c) := (blkcell hi.blk 0).trans rfl
  have h1 : w.cell? ⟨g, 1, none⟩ = some (.int .i64 next) := (blkcell hi.blk 1).trans rfl
  clear hi
  by_cases hge : ns.length ≤ next
  · have hd1 : decide ((ns.length : Int) ≤ (next : Int)) = true := decide_eq_true (by omega)
    have hd2 : decide (ns.length ≤ next) = true := decide_eq_true (by omega)
    go_enter Try.func51, Try.ntmps51
    go_wp2
    go_quiet (fail)
    go_wp2
    go_ret2
    exact ⟨rfl, grown_of_below (pw_below_drewN (Below.refl _ _) _) _⟩
  · have hd1 : decide ((ns.length : Int) ≤ (next : Int)) = false := decide_eq_false (by omega)
    have hd2 : decide (ns.length ≤ next) = false := decide_eq_false (by omega)
    have hd3 : decide ((30 : Int) < (deep : Int)) = true := decide_eq_true (by omega)
    have hd4 : decide (30 < deep) = true := decide_eq_true (by omega)
    go_enter Try.func51, Try.ntmps51
    go_wp2
    go_quiet (fail)
    go_wp2
    go_ret2
    exact ⟨rfl, grown_of_below (pw_below_drewN (Below.refl _ _) _) _⟩

/-- What the reader's first steps know: there is a node, not too deep. -/
structure RdHas (w0 w : World) (A : Option Addr) (c : Nat) (ns : List TN) (g next deep : Nat) (t : TN) : Prop where
  inp : RdIn w0 w A c ns g next
  len : ns.length ≤ 5000
  lt : next < ns.length
  deep : deep ≤ 30
  at_ : ns[next]? = some t

theorem rd_at (ns : List TN) (next : Nat) (t : TN) (h : ns[next]? = some t) : PFnTree.rd_T89 ns (next : Int) = t := by
  simp [PFnTree.rd_T89, List.getD_eq_getElem?_getD, h]

theorem rdyes_leaf (w0 w w1 : World) (A : Option Addr) (c : Nat) (ns : List TN) (g next : Nat) (ks : List ByteArray) (A1 : Option Addr) (c1 : Nat) (tn : Array Value) (hi : RdIn w0 w A c ns g next) (hq : Below w.heap.size w w1) (hK : Kd.C Kd.string w0 A1 ks.length ks) (hl : ks.length ≤ c1) :
    RdYes w0 w A c ns g (.leaf ks) 0 (next + 1) (.returned (.tuple #[.iface 68 (.pointer (some ⟨w1.heap.size + 1, 0, none⟩)), .int .i64 0]))
      ((((w1.setCell ⟨g, 1, none⟩ (.int .i64 (next + 1))).alloc (.cells tn 89)).alloc (.cells #[.int .i64 ks.length, .slice A1 ks.length c1] 99)).drew) := by
  have hg := blk_below hi.blk hq
  have hsz : (w1.setCell ⟨g, 1, none⟩ (.int .i64 (next + 1))).heap.size = w1.heap.size := by simp [World.setCell]
  have hs2 : ((w1.setCell ⟨g, 1, none⟩ (.int .i64 (next + 1))).alloc (.cells tn 89)).heap.size = w1.heap.size + 1 := by rw [World.size_alloc, hsz]
  refine ⟨_, rfl, grown_drew (grown_alloc (grown_alloc ?_ _) _), ?_, ?_⟩
  · exact (grown_of_below hq (some g)).trans (grown_set w1 g 1 _)
  · exact blk_drew (blk_alloc (blk_alloc (blk_put hg 1 _ rfl) _) _)
  · intro W hW _ hk
    unfold NodeAt
    refine ⟨w1.heap.size + 1, A1, c1, rfl, ?_, hl, Kd.C_below hK hW⟩
    rw [hk (w1.heap.size + 1) (by have := hq.size; omega) (by show _ < (World.alloc _ _).heap.size; rw [World.size_alloc, hs2]; omega) (by simp)]
    have := blk_new ((w1.setCell ⟨g, 1, none⟩ (.int .i64 (next + 1))).alloc (.cells tn 89)) (.cells #[.int .i64 ks.length, .slice A1 ks.length c1] 99)
    rw [hs2] at this
    exact this

set_option maxHeartbeats 1000000 in
set_option maxRecDepth 100000 in
theorem node_leaf (w0 w : World) (A : Option Addr) (c : Nat) (ns : List TN) (g next deep : Nat) (t : TN) (hs : RdHas w0 w A c ns g next deep t) (hl : t.f0 = true) (hb : ¬ leafBad deep t) :
    Calls Try.prog 51 #[.pointer (some ⟨g, 0, none⟩), .int .i64 (deep : Int)] w (RdYes w0 w A c ns g (.leaf t.f1) 0 (next + 1)) := by
  obtain ⟨hi, hn, hlt, hdp, hat⟩ := hs
  have h0 : w.cell? ⟨g, 0, none⟩ = some (.slice A ns.length c) := (blkcell hi.blk 0).trans rfl
  have h1 : w.cell? ⟨g, 1, none⟩ = some (.int .i64 next) := (blkcell hi.blk 1).trans rfl
  have hz : w.frozen? ⟨g, 1, none⟩ = false := by simp [World.frozen?, hi.blk]
  obtain ⟨ad, A1, c1, A2, c2, rfl, e0, e1, e2, e3, l1, k1, l2, k2⟩ := PFnTree.at_T89 hi.ns (next : Int) (by omega) (by omega)
  rw [rd_at ns next t hat] at e0 e1 e2 e3 l1 k1 l2 k2
  rw [hl] at e0
  clear hl
  have HB := Aside0.mk hb
  clear hb
  have b0 := pw_cell_below hi.below e0
  have b1 := pw_cell_below hi.below e1
  have b2 := pw_cell_below hi.below e2
  have b3 := pw_cell_below hi.below e3
  rw [Int.toNat_natCast] at b0 b1 b2 b3
  have hd1 : decide ((ns.length : Int) ≤ (next : Int)) = false := decide_eq_false (by omega)
  have hd2 : decide (ns.length ≤ next) = false := decide_eq_false (by omega)
  have hd3 : decide ((30 : Int) < (deep : Int)) = false := decide_eq_false (by omega)
  have hd4 : decide (30 < deep) = false := decide_eq_false (by omega)
  have hsz : g < w.heap.size := (Array.getElem?_eq_some_iff.1 hi.blk).1
  have HI := Aside0.mk hi
  have K1 := Aside0.mk k1
  have K2 := Aside0.mk k2
  have HAT := Aside0.mk hat
  clear hi k1 k2 hat e0 e1 e2 e3
  go_enter Try.func51, Try.ntmps51
  go_wp2
  go_quiet (fail)
  have hq := Aside0.mk (pw_below_drewN (Below.refl w.heap.size w) nq)
  have q0 : (w.drewN nq).cell? ⟨g, 0, none⟩ = _ := h0
  have q1 : (w.drewN nq).cell? ⟨g, 1, none⟩ = _ := h1
  have qz : (w.drewN nq).frozen? ⟨g, 1, none⟩ = _ := hz
  have p0 : (w.drewN nq).cell? _ = _ := b0
  have p1 : (w.drewN nq).cell? _ = _ := b1
  have p2 : (w.drewN nq).cell? _ = _ := b2
  have p3 : (w.drewN nq).cell? _ = _ := b3
  have qs : g < (w.drewN nq).heap.size := hsz
  generalize w.drewN nq = w1 at hq q0 q1 qz p0 p1 p2 p3 qs ⊢
  have qb : (ad.add (next * 4)).block < w1.heap.size := World.block_lt_of_cell? _ _ p0
  clear h0 h1 hz b0 b1 b2 b3 hsz
  go_wp2
  go_region
  obtain ⟨hg1, hg2, hg3, hg4⟩ := leaf_good HB.out
  have ha1 : decide ((0 : Int) < (t.f2.length : Int)) = false := decide_eq_false (by omega)
  have ha2 : decide (0 < t.f2.length) = false := decide_eq_false (by omega)
  have ha3 : decide ((4 : Int) < (t.f1.length : Int)) = false := decide_eq_false (by omega)
  have ha4 : decide (4 < t.f1.length) = false := decide_eq_false (by omega)
  have ha5 : (t.f3 == (t.f1.length : Int)) = true := by simp [hg3]
  have ha6 : (t.f3 != (t.f1.length : Int)) = false := by simp [hg3]
  by_cases hd0 : 0 < deep
  · have ha7 : decide ((0 : Int) < (deep : Int)) = true := decide_eq_true (by omega)
    have ha8 : decide (0 < deep) = true := decide_eq_true (by omega)
    have hg5 := hg4 hd0
    have ha9 : decide ((t.f1.length : Int) < 2) = false := decide_eq_false (by omega)
    have ha10 : decide (t.f1.length < 2) = false := decide_eq_false (by omega)
    clear hg1 hg2 hg3 hg4 hg5 hd0
    go_wp2_with (go_at_call 39; refine (newLeaf_any _ _ _ _).mono ?_; rintro e w' ⟨rfl, rfl⟩)
    go_ret2
    exact rdyes_leaf w0 w w1 (some ad) c ns g next t.f1 A1 c1 _ HI.out hq.out K1.out l1
  · have ha7 : decide ((0 : Int) < (deep : Int)) = false := decide_eq_false (by omega)
    have ha8 : decide (0 < deep) = false := decide_eq_false (by omega)
    clear hg1 hg2 hg3 hg4 hd0
    go_wp2_with (go_at_call 39; refine (newLeaf_any _ _ _ _).mono ?_; rintro e w' ⟨rfl, rfl⟩)
    go_ret2
    exact rdyes_leaf w0 w w1 (some ad) c ns g next t.f1 A1 c1 _ HI.out hq.out K1.out l1

set_option maxHeartbeats 1000000 in
set_option maxRecDepth 100000 in
theorem node_leaf_bad (w0 w : World) (A : Option Addr) (c : Nat) (ns : List TN) (g next deep : Nat) (t : TN) (hs : RdHas w0 w A c ns g next deep t) (hl : t.f0 = true) (hb : leafBad deep t) :
    Calls Try.prog 51 #[.pointer (some ⟨g, 0, none⟩), .int .i64 (deep : Int)] w (RdNo w g) := by
  obtain ⟨hi, hn, hlt, hdp, hat⟩ := hs
  have h0 : w.cell? ⟨g, 0, none⟩ = some (.slice A ns.length c) := (blkcell hi.blk 0).trans rfl
  have h1 : w.cell? ⟨g, 1, none⟩ = some (.int .i64 next) := (blkcell hi.blk 1).trans rfl
  have hz : w.frozen? ⟨g, 1, none⟩ = false := by simp [World.frozen?, hi.blk]
  obtain ⟨ad, A1, c1, A2, c2, rfl, e0, e1, e2, e3, l1, k1, l2, k2⟩ := PFnTree.at_T89 hi.ns (next : Int) (by omega) (by omega)
  rw [rd_at ns next t hat] at e0 e1 e2 e3 l1 k1 l2 k2
  rw [hl] at e0
  clear hl
  have HB := Aside0.mk hb
  clear hb
  have b0 := pw_cell_below hi.below e0
  have b1 := pw_cell_below hi.below e1
  have b2 := pw_cell_below hi.below e2
  have b3 := pw_cell_below hi.below e3
  rw [Int.toNat_natCast] at b0 b1 b2 b3
  have hd1 : decide ((ns.length : Int) ≤ (next : Int)) = false := decide_eq_false (by omega)
  have hd2 : decide (ns.length ≤ next) = false := decide_eq_false (by omega)
  have hd3 : decide ((30 : Int) < (deep : Int)) = false := decide_eq_false (by omega)
  have hd4 : decide (30 < deep) = false := decide_eq_false (by omega)
  have hsz : g < w.heap.size := (Array.getElem?_eq_some_iff.1 hi.blk).1
  have HI := Aside0.mk hi
  have K1 := Aside0.mk k1
  have K2 := Aside0.mk k2
  have HAT := Aside0.mk hat
  clear hi k1 k2 hat e0 e1 e2 e3
  go_enter Try.func51, Try.ntmps51
  go_wp2
  go_quiet (fail)
  have hq := Aside0.mk (pw_below_drewN (Below.refl w.heap.size w) nq)
  have q0 : (w.drewN nq).cell? ⟨g, 0, none⟩ = _ := h0
  have q1 : (w.drewN nq).cell? ⟨g, 1, none⟩ = _ := h1
  have qz : (w.drewN nq).frozen? ⟨g, 1, none⟩ = _ := hz
  have p0 : (w.drewN nq).cell? _ = _ := b0
  have p1 : (w.drewN nq).cell? _ = _ := b1
  have p2 : (w.drewN nq).cell? _ = _ := b2
  have p3 : (w.drewN nq).cell? _ = _ := b3
  have qs : g < (w.drewN nq).heap.size := hsz
  generalize w.drewN nq = w1 at hq q0 q1 qz p0 p1 p2 p3 qs ⊢
  have qb : (ad.add (next * 4)).block < w1.heap.size := World.block_lt_of_cell? _ _ p0
  clear h0 h1 hz b0 b1 b2 b3 hsz
  go_wp2
  go_region
  have hgr : ∀ o, w.grownBy (((w1.setCell ⟨g, 1, none⟩ (.int .i64 (next + 1))).alloc o).drew) (some g) := fun o => grown_drew (grown_alloc ((grown_of_below hq.out (some g)).trans (grown_set w1 g 1 _)) _)
  have HGR := Aside0.mk hgr
  clear hgr
  have hbb := HB.out
  unfold leafBad at hbb
  by_cases s1 : 0 < t.f2.length
  · have ha1 : decide ((0 : Int) < (t.f2.length : Int)) = true := decide_eq_true (by omega)
    have ha2 : decide (0 < t.f2.length) = true := decide_eq_true (by omega)
    clear hbb s1
    go_wp2
    go_ret2
    exact ⟨rfl, HGR.out _⟩
  · have ha1 : decide ((0 : Int) < (t.f2.length : Int)) = false := decide_eq_false (by omega)
    have ha2 : decide (0 < t.f2.length) = false := decide_eq_false (by omega)
    by_cases s2 : 4 < t.f1.length
    · have ha3 : decide ((4 : Int) < (t.f1.length : Int)) = true := decide_eq_true (by omega)
      have ha4 : decide (4 < t.f1.length) = true := decide_eq_true (by omega)
      clear hbb s1 s2
      go_wp2
      go_ret2
      exact ⟨rfl, HGR.out _⟩
    · have ha3 : decide ((4 : Int) < (t.f1.length : Int)) = false := decide_eq_false (by omega)
      have ha4 : decide (4 < t.f1.length) = false := decide_eq_false (by omega)
      by_cases s3 : t.f3 = t.f1.length
      · have ha5 : (t.f3 == (t.f1.length : Int)) = true := beq_iff_eq.2 s3
        have ha6 : (t.f3 != (t.f1.length : Int)) = false := by simp [s3]
        have s4 : 0 < deep ∧ t.f1.length < 2 := by
          rcases hbb with q | q | q | q
          · exact absurd q s1
          · exact absurd q s2
          · exact absurd s3 q
          · exact q
        obtain ⟨s4, s5⟩ := s4
        have ha7 : decide ((0 : Int) < (deep : Int)) = true := decide_eq_true (by omega)
        have ha8 : decide (0 < deep) = true := decide_eq_true (by omega)
        have ha9 : decide ((t.f1.length : Int) < 2) = true := decide_eq_true (by omega)
        have ha10 : decide (t.f1.length < 2) = true := decide_eq_true (by omega)
        clear hbb s1 s2 s3 s4 s5
        go_wp2
        go_ret2
        exact ⟨rfl, HGR.out _⟩
      · have ha5 : (t.f3 == (t.f1.length : Int)) = false := beq_eq_false_iff_ne.2 s3
        have ha6 : (t.f3 != (t.f1.length : Int)) = true := bne_iff_ne.2 s3
        clear hbb s1 s2 s3
        go_wp2
        go_ret2
        exact ⟨rfl, HGR.out _⟩

set_option maxHeartbeats 1000000 in
set_option maxRecDepth 100000 in
theorem node_node_bad (w0 w : World) (A : Option Addr) (c : Nat) (ns : List TN) (g next deep : Nat) (t : TN) (hs : RdHas w0 w A c ns g next deep t) (hl : t.f0 = false) (hb : nodeBad t) :
    Calls Try.prog 51 #[.pointer (some ⟨g, 0, none⟩), .int .i64 (deep : Int)] w (RdNo w g) := by
  obtain ⟨hi, hn, hlt, hdp, hat⟩ := hs
  have h0 : w.cell? ⟨g, 0, none⟩ = some (.slice A ns.length c) := (blkcell hi.blk 0).trans rfl
  have h1 : w.cell? ⟨g, 1, none⟩ = some (.int .i64 next) := (blkcell hi.blk 1).trans rfl
  have hz : w.frozen? ⟨g, 1, none⟩ = false := by simp [World.frozen?, hi.blk]
  obtain ⟨ad, A1, c1, A2, c2, rfl, e0, e1, e2, e3, l1, k1, l2, k2⟩ := PFnTree.at_T89 hi.ns (next : Int) (by omega) (by omega)
  rw [rd_at ns next t hat] at e0 e1 e2 e3 l1 k1 l2 k2
  rw [hl] at e0
  clear hl
  have HB := Aside0.mk hb
  clear hb
  have b0 := pw_cell_below hi.below e0
  have b1 := pw_cell_below hi.below e1
  have b2 := pw_cell_below hi.below e2
  have b3 := pw_cell_below hi.below e3
  rw [Int.toNat_natCast] at b0 b1 b2 b3
  have hd1 : decide ((ns.length : Int) ≤ (next : Int)) = false := decide_eq_false (by omega)
  have hd2 : decide (ns.length ≤ next) = false := decide_eq_false (by omega)
  have hd3 : decide ((30 : Int) < (deep : Int)) = false := decide_eq_false (by omega)
  have hd4 : decide (30 < deep) = false := decide_eq_false (by omega)
  have hsz : g < w.heap.size := (Array.getElem?_eq_some_iff.1 hi.blk).1
  have HI := Aside0.mk hi
  have K1 := Aside0.mk k1
  have K2 := Aside0.mk k2
  have HAT := Aside0.mk hat
  clear hi k1 k2 hat e0 e1 e2 e3
  go_enter Try.func51, Try.ntmps51
  go_wp2
  go_quiet (fail)
  have hq := Aside0.mk (pw_below_drewN (Below.refl w.heap.size w) nq)
  have q0 : (w.drewN nq).cell? ⟨g, 0, none⟩ = _ := h0
  have q1 : (w.drewN nq).cell? ⟨g, 1, none⟩ = _ := h1
  have qz : (w.drewN nq).frozen? ⟨g, 1, none⟩ = _ := hz
  have p0 : (w.drewN nq).cell? _ = _ := b0
  have p1 : (w.drewN nq).cell? _ = _ := b1
  have p2 : (w.drewN nq).cell? _ = _ := b2
  have p3 : (w.drewN nq).cell? _ = _ := b3
  have qs : g < (w.drewN nq).heap.size := hsz
  generalize w.drewN nq = w1 at hq q0 q1 qz p0 p1 p2 p3 qs ⊢
  have qb : (ad.add (next * 4)).block < w1.heap.size := World.block_lt_of_cell? _ _ p0
  clear h0 h1 hz b0 b1 b2 b3 hsz
  go_wp2
  go_region
  have hgr : ∀ o, w.grownBy (((w1.setCell ⟨g, 1, none⟩ (.int .i64 (next + 1))).alloc o).drew) (some g) := fun o => grown_drew (grown_alloc ((grown_of_below hq.out (some g)).trans (grown_set w1 g 1 _)) _)
  have HGR := Aside0.mk hgr
  clear hgr
  have hbb := HB.out
  unfold nodeBad at hbb
  by_cases s1 : t.f2.length < 2
  · have ha1 : decide ((t.f2.length : Int) < 2) = true := decide_eq_true (by omega)
    have ha2 : decide (t.f2.length < 2) = true := decide_eq_true (by omega)
    clear hbb s1
    go_wp2
    go_ret2
    exact ⟨rfl, HGR.out _⟩
  · have ha1 : decide ((t.f2.length : Int) < 2) = false := decide_eq_false (by omega)
    have ha2 : decide (t.f2.length < 2) = false := decide_eq_false (by omega)
    by_cases s2 : 4 < t.f2.length
    · have ha3 : decide ((4 : Int) < (t.f2.length : Int)) = true := decide_eq_true (by omega)
      have ha4 : decide (4 < t.f2.length) = true := decide_eq_true (by omega)
      clear hbb s1 s2
      go_wp2
      go_ret2
      exact ⟨rfl, HGR.out _⟩
    · have ha3 : decide ((4 : Int) < (t.f2.length : Int)) = false := decide_eq_false (by omega)
      have ha4 : decide (4 < t.f2.length) = false := decide_eq_false (by omega)
      have s3 : ¬ ((t.f1.length : Int) = (t.f2.length : Int) - 1) := by omega
      have ha5 : ((t.f1.length : Int) == (t.f2.length : Int) - 1) = false := beq_eq_false_iff_ne.2 s3
      have ha6 : ((t.f1.length : Int) != (t.f2.length : Int) - 1) = true := bne_iff_ne.2 s3
      have s4 : 2 ≤ t.f2.length := by omega
      have s6 : t.f2.length ≤ 4 := by omega
      clear hbb s1 s2 s3
      go_wp2
      go_ret2
      exact ⟨rfl, HGR.out _⟩
end Go.Proofs.Ytnfaiblhjgmjgaa
