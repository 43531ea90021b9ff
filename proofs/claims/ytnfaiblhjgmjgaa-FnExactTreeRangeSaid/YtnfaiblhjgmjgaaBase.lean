/-
  Base words: facts that stay while other blocks turn ('Stay'); trees of the program as values ('T', 'NodeAt').
-/
import Derived.Test.YtnfaiblhjgmjgaaProg
import Derived.Test.YtnfaiblhjgmjgaaWMore
import Derived.Test.YtnfaiblhjgmjgaaPFnTreex0
import Derived.WalkKit
import Derived.WalkSpells
import Derived.WalkLawsBesides
namespace Go.Proofs.Ytnfaiblhjgmjgaa
open Go.RowKit Go.Proofs.YtnfaiblhjgmjgaaW.PrintWords

abbrev TN := PFnTree.S89
abbrev kTN := PFnTree.k89
theorem blkcell {w : World} {b : Nat} {cs : Array Value} {t : TypeId} {fr : Nat × Nat} (h : w.heap[b]? = some (.cells cs t fr)) (j : Nat) : w.cell? ⟨b, j, none⟩ = cs[j]? := by
  simp [World.cell?, h]

/-- P holds in every world that keeps w0's blocks and what wx has from block a on, but for the block 'row'. -/
def Stay (w0 : World) (a : Nat) (row : Option Nat) (wx : World) (P : World → Prop) : Prop :=
  ∀ W', Below w0.heap.size w0 W' → wx.heap.size ≤ W'.heap.size → (∀ k, a ≤ k → k < wx.heap.size → some k ≠ row → W'.heap[k]? = wx.heap[k]?) → P W'

theorem Stay.now {w0 wx : World} {a : Nat} {row : Option Nat} {P : World → Prop} (h : Stay w0 a row wx P) (hb : Below w0.heap.size w0 wx) : P wx := h wx hb (Nat.le_refl _) (fun _ _ _ _ => rfl)
theorem Stay.imp {w0 wx : World} {a : Nat} {row : Option Nat} {P Q : World → Prop} (h : Stay w0 a row wx P) (hpq : ∀ W, P W → Q W) : Stay w0 a row wx Q := fun W hb hs hk => hpq W (h W hb hs hk)
theorem Stay.and {w0 wx : World} {a : Nat} {row : Option Nat} {P Q : World → Prop} (h : Stay w0 a row wx P) (h2 : Stay w0 a row wx Q) : Stay w0 a row wx (fun W => P W ∧ Q W) := fun W hb hs hk => ⟨h W hb hs hk, h2 W hb hs hk⟩
theorem Stay.old {w0 : World} {P : World → Prop} (h : P w0) (hP : ∀ W, Below w0.heap.size w0 W → P w0 → P W) (a : Nat) (row : Option Nat) (wx : World) : Stay w0 a row wx P := fun W hb _ _ => hP W hb h
theorem Stay.lower {w0 wx : World} {a a' : Nat} {row : Option Nat} {P : World → Prop} (h : Stay w0 a row wx P) (ha : a' ≤ a) : Stay w0 a' row wx P := fun W hb hs hk => h W hb hs (fun k h1 h2 h3 => hk k (by omega) h2 h3)
theorem Stay.full {w0 wx : World} {a : Nat} {row : Option Nat} {P : World → Prop} (h : Stay w0 a row wx P) : Stay w0 a none wx P := fun W hb hs hk => h W hb hs (fun k h1 h2 _ => hk k h1 h2 (by simp))
/-- The row lies below a: nothing is left out. -/
theorem Stay.row_lt {w0 wx : World} {a : Nat} {P : World → Prop} (h : Stay w0 a none wx P) (row : Option Nat) (hr : ∀ k, row = some k → k < a) : Stay w0 a row wx P :=
  fun W hb hs hk => h W hb hs (fun k h1 h2 _ => hk k h1 h2 (fun e => by have := hr k e.symm; omega))
theorem Stay.below {w0 wx wy : World} {a : Nat} {row : Option Nat} {P : World → Prop} (h : Stay w0 a row wx P) (hb : Below wx.heap.size wx wy) : Stay w0 a row wy P :=
  fun W hw hs hk => h W hw (Nat.le_trans hb.size hs) (fun k h1 h2 h3 => (hk k h1 (Nat.lt_of_lt_of_le h2 hb.size) h3).trans (hb.block k h2))
theorem Stay.grown {w0 wx wy : World} {a : Nat} {row row' : Option Nat} {P : World → Prop} (h : Stay w0 a row wx P) (hg : wx.grownBy wy row) (hr : row' = row ∨ ∃ b, row' = some b ∧ wx.heap.size ≤ b) : Stay w0 a row' wy P := by
  intro W hw hs hk
  refine h W hw (Nat.le_trans hg.size hs) (fun k h1 h2 h3 => ?_)
  refine (hk k h1 (Nat.lt_of_lt_of_le h2 hg.size) ?_).trans (hg.block k h2 h3)
  rcases hr with rfl | ⟨b, rfl, hb⟩
  · exact h3
  · intro e
    injection e with e
    omega
/-- A block beyond a's is written: facts that leave that block out stay. -/
theorem Stay.set {w0 wx : World} {a : Nat} {P : World → Prop} {g : Nat} (h : Stay w0 a (some g) wx P) (j : Nat) (u : Value) : Stay w0 a (some g) (wx.setCell ⟨g, j, none⟩ u) P := by
  intro W hw hs hk
  have e : (wx.setCell ⟨g, j, none⟩ u).heap.size = wx.heap.size := by simp [World.setCell]
  rw [e] at hs hk
  refine h W hw hs (fun k h1 h2 h3 => (hk k h1 h2 h3).trans (Below.heap_setCell wx ⟨g, j, none⟩ u k (fun e => h3 (by rw [e]))))
/-- What is written lies below a. -/
theorem Stay.other {w0 wx wy : World} {a : Nat} {row : Option Nat} {P : World → Prop} (h : Stay w0 a row wx P) {g : Nat} (hg : wx.grownBy wy (some g)) (hga : g < a) : Stay w0 a row wy P :=
  fun W hw hs hk => h W hw (Nat.le_trans hg.size hs) (fun k h1 h2 h3 => (hk k h1 (Nat.lt_of_lt_of_le h2 hg.size) h3).trans (hg.block k h2 (fun e => by injection e with e; omega)))
theorem Stay.drew {w0 wx : World} {a : Nat} {row : Option Nat} {P : World → Prop} (h : Stay w0 a row wx P) : Stay w0 a row wx.drew P := h
theorem Stay.drewN {w0 wx : World} {a : Nat} {row : Option Nat} {P : World → Prop} (h : Stay w0 a row wx P) (n : Nat) : Stay w0 a row (wx.drewN n) P := h
/-- From one base world to a later one. -/
theorem Stay.base {w0 w1 wx : World} {a : Nat} {P : World → Prop} (h : Stay w1 a none wx P) (hb : Below w1.heap.size w1 wx) (h01 : Below w0.heap.size w0 w1) (ha : a ≤ w1.heap.size) : Stay w0 w0.heap.size none wx P := by
  intro W hw hs hk
  have hx : Below w0.heap.size w0 wx := h01.trans (hb.mono h01.size)
  have hall : ∀ k, k < wx.heap.size → W.heap[k]? = wx.heap[k]? := by
    intro k hlt
    rcases Nat.lt_or_ge k w0.heap.size with h0 | h0
    · exact (hw.block k h0).trans (hx.block k h0).symm
    · exact hk k h0 hlt (by simp)
  refine h W ⟨hw.os.trans h01.os.symm, hw.tape.trans h01.tape.symm, hw.output.trans h01.output.symm, Nat.le_trans hb.size hs, fun k hk1 => ?_⟩ hs (fun k _ h2 _ => hall k h2)
  exact (hall k (Nat.lt_of_lt_of_le hk1 hb.size)).trans (hb.block k hk1)

theorem grown_set (w : World) (g j : Nat) (u : Value) : w.grownBy (w.setCell ⟨g, j, none⟩ u) (some g) :=
  ⟨rfl, rfl, rfl, by simp [World.setCell], fun k _ h => Below.heap_setCell w ⟨g, j, none⟩ u k (fun e => h (by rw [e]))⟩
theorem grown_drew {w w' : World} {row : Option Nat} (h : w.grownBy w' row) : w.grownBy w'.drew row := ⟨h.os, h.tape, h.output, h.size, h.block⟩
theorem grown_step {w w1 w2 : World} {row : Option Nat} (h : w.grownBy w1 row) (hb : Below w1.heap.size w1 w2) : w.grownBy w2 row :=
  ⟨hb.os.trans h.os, hb.tape.trans h.tape, hb.output.trans h.output, Nat.le_trans h.size hb.size, fun k hk hr => (hb.block k (Nat.lt_of_lt_of_le hk h.size)).trans (h.block k hk hr)⟩
theorem grown_alloc {w w1 : World} {row : Option Nat} (h : w.grownBy w1 row) (o : Obj) : w.grownBy (w1.alloc o) row := grown_step h ((Below.refl _ _).alloc (Nat.le_refl _) o)

theorem bs_eq (a b : ByteArray) : (a.toList == b.toList) = decide (a = b) := by
  rw [ByteArray.toList_eq, ByteArray.toList_eq]
  by_cases h : a = b
  · subst h; simp
  · rw [decide_eq_false h]
    refine beq_eq_false_iff_ne.2 (fun e => h (ByteArray.ext (Array.toList_inj.mp e)))

theorem R_high {α : Type} {d : Kd α} {e base base' : Nat} {ok : Nat → Prop} {w w1 : World} {v : Value} {xs : List α} (h : d.R e w base ok v xs) (hb : base' ≤ base) (hm : ∀ k, base ≤ k → k < w.heap.size → w1.heap[k]? = w.heap[k]?) : d.R e w1 base' (fun _ => True) v xs :=
  Kd.R_lower (Kd.R_mono (Kd.R_step (Kd.R_mono (Kd.R_bound h) (ok' := fun k => base ≤ k) (fun k hk => hk.2.1)) hm) (fun _ _ => trivial)) hb

/-! ### the program's trees -/
inductive T where
  | leaf (ks : List ByteArray)
  | node (kids : List T)

mutual
/-- The count that the program keeps. -/
def T.cnt : T → Int
  | .leaf ks => ks.length
  | .node kids => cntL 0 kids
def cntL : Int → List T → Int
  | a, [] => a
  | a, t :: ts => cntL (wrap64 (a + T.cnt t)) ts
end
mutual
def T.keys : T → List ByteArray
  | .leaf ks => ks
  | .node kids => keysL kids
def keysL : List T → List ByteArray
  | [] => []
  | t :: ts => T.keys t ++ keysL ts
end
mutual
/-- No inner node is without children. -/
def T.full : T → Prop
  | .leaf _ => True
  | .node kids => kids ≠ [] ∧ fullL kids
def fullL : List T → Prop
  | [] => True
  | t :: ts => T.full t ∧ fullL ts
end
mutual
def T.least : T → ByteArray
  | .leaf ks => ks.headD ⟨#[]⟩
  | .node kids => leastL kids
def leastL : List T → ByteArray
  | [] => ⟨#[]⟩
  | t :: _ => T.least t
end
mutual
def T.high : T → Nat
  | .leaf _ => 0
  | .node kids => highL kids + 1
def highL : List T → Nat
  | [] => 0
  | t :: ts => max (T.high t) (highL ts)
end

mutual
theorem T.ind {P : T → Prop} (hl : ∀ ks, P (.leaf ks)) (hn : ∀ kids, (∀ t ∈ kids, P t) → P (.node kids)) : ∀ t, P t
  | .leaf ks => hl ks
  | .node kids => hn kids (T.indL hl hn kids)
theorem T.indL {P : T → Prop} (hl : ∀ ks, P (.leaf ks)) (hn : ∀ kids, (∀ t ∈ kids, P t) → P (.node kids)) : ∀ (ts : List T), ∀ t ∈ ts, P t
  | [] => fun _ h => nomatch h
  | x :: ts => by
    have h1 := T.ind hl hn x
    have h2 := T.indL hl hn ts
    intro t h
    cases h with
    | head => exact h1
    | tail _ h => exact h2 t h
end

/-- A row of values. -/
def RawAt (w : World) (A : Option Addr) (vs : List Value) : Prop := 0 < vs.length → ∃ ad, A = some ad ∧ ∀ j u, vs[j]? = some u → w.cell? (ad.add j) = some u
theorem RawAt.below {w w1 : World} {A : Option Addr} {vs : List Value} (h : RawAt w A vs) (hb : Below w.heap.size w w1) : RawAt w1 A vs := by
  intro h0
  obtain ⟨ad, e, hc⟩ := h h0
  exact ⟨ad, e, fun j u hj => pw_cell_below hb (hc j u hj)⟩

theorem raw_of_own {w : World} {base : Nat} {e : TypeId} {v : Value} {n : Nat} {vs : List Value} (h : w.ownsRow base e 1 v n vs) :
    ∃ A c, v = .slice A n c ∧ n ≤ c ∧ c ≤ 9223372036854775807 ∧ vs.length = n ∧ RawAt w A vs ∧ ∀ W : World, (∀ k, v.ownBlock = some k → W.heap[k]? = w.heap[k]?) → RawAt W A vs := by
  have hl : vs.length = n := by have := h.1; omega
  have raw : ∀ W : World, W.ownsRow base e 1 v n vs → ∀ A c, v = .slice A n c → RawAt W A vs := by
    intro W hW A c hv h0
    obtain ⟨g, cap, rfl, hg⟩ := hW.form (by omega)
    injection hv with hv
    exact ⟨⟨g, 0, none⟩, hv.symm, fun j u hj => hW.cells (g := g) rfl j u hj⟩
  rcases h.2 with ⟨hv, hn⟩ | ⟨g, cap, cur, hv, hb, hh, hnc, hcm, _⟩
  · subst hn
    exact ⟨none, 0, hv, Nat.le_refl _, by omega, hl, raw w h _ _ hv, fun W hW => raw W (own_move h hW) _ _ hv⟩
  · exact ⟨_, cap, hv, hnc, hcm, hl, raw w h _ _ hv, fun W hW => raw W (own_move h hW) _ _ hv⟩

mutual
def NodeAt (w : World) : T → Value → Prop
  | .leaf ks, v => ∃ b A c, v = .iface 68 (.pointer (some ⟨b, 0, none⟩)) ∧ w.heap[b]? = some (.cells #[.int .i64 ks.length, .slice A ks.length c] 99 (0, 0)) ∧ ks.length ≤ c ∧ Kd.C Kd.string w A ks.length ks
  | .node kids, v => ∃ b A c vs, v = .iface 72 (.pointer (some ⟨b, 0, none⟩)) ∧ w.heap[b]? = some (.cells #[.int .i64 (cntL 0 kids), .slice A kids.length c] 78 (0, 0)) ∧ kids.length ≤ c ∧ c ≤ 9223372036854775807 ∧ RawAt w A vs ∧ NodesAt w kids vs
def NodesAt (w : World) : List T → List Value → Prop
  | [], vs => vs = []
  | t :: ts, vs => ∃ v r, vs = v :: r ∧ NodeAt w t v ∧ NodesAt w ts r
end

theorem NodesAt.length {w : World} : ∀ {ts : List T} {vs : List Value}, NodesAt w ts vs → vs.length = ts.length
  | [], _, h => by unfold NodesAt at h; subst h; rfl
  | t :: ts, _, h => by
    unfold NodesAt at h
    obtain ⟨v, r, rfl, _, h⟩ := h
    simp [NodesAt.length h]
theorem NodesAt.get {w : World} : ∀ {ts : List T} {vs : List Value} (_ : NodesAt w ts vs) (j : Nat) (t : T), ts[j]? = some t → ∃ v, vs[j]? = some v ∧ NodeAt w t v
  | [], _, _, j, t, hj => by simp at hj
  | s :: ts, _, h, 0, t, hj => by
    unfold NodesAt at h
    obtain ⟨v, r, rfl, h1, h2⟩ := h
    simp at hj
    subst hj
    exact ⟨v, rfl, h1⟩
  | s :: ts, _, h, j + 1, t, hj => by
    unfold NodesAt at h
    obtain ⟨v, r, rfl, h1, h2⟩ := h
    exact NodesAt.get h2 j t hj
theorem NodesAt.append {w : World} : ∀ {ts us : List T} {vs rs : List Value}, NodesAt w ts vs → NodesAt w us rs → NodesAt w (ts ++ us) (vs ++ rs)
  | [], _, _, _, h, h2 => by unfold NodesAt at h; subst h; exact h2
  | t :: ts, us, _, rs, h, h2 => by
    unfold NodesAt at h
    obtain ⟨v, r, rfl, h1, h⟩ := h
    simp only [List.cons_append]
    unfold NodesAt
    exact ⟨v, r ++ rs, rfl, h1, NodesAt.append h h2⟩
theorem NodesAt.one {w : World} {t : T} {v : Value} (h : NodeAt w t v) : NodesAt w [t] [v] := by
  unfold NodesAt
  exact ⟨v, [], rfl, h, by unfold NodesAt; rfl⟩
theorem NodesAt.nil {w : World} : NodesAt w [] [] := by unfold NodesAt; rfl

mutual
theorem NodeAt.below {w w1 : World} (hb : Below w.heap.size w w1) : ∀ (t : T) (v : Value), NodeAt w t v → NodeAt w1 t v
  | .leaf ks, v, h => by
    unfold NodeAt at h ⊢
    obtain ⟨b, A, c, e, hh, hc, hk⟩ := h
    exact ⟨b, A, c, e, (hb.block b (Array.getElem?_eq_some_iff.1 hh).1).trans hh, hc, Kd.C_below hk hb⟩
  | .node kids, v, h => by
    unfold NodeAt at h ⊢
    obtain ⟨b, A, c, vs, e, hh, hc, hm, hr, hk⟩ := h
    exact ⟨b, A, c, vs, e, (hb.block b (Array.getElem?_eq_some_iff.1 hh).1).trans hh, hc, hm, hr.below hb, NodesAt.below hb kids vs hk⟩
theorem NodesAt.below {w w1 : World} (hb : Below w.heap.size w w1) : ∀ (ts : List T) (vs : List Value), NodesAt w ts vs → NodesAt w1 ts vs
  | [], vs, h => by unfold NodesAt at h ⊢; exact h
  | t :: ts, vs, h => by
    unfold NodesAt at h ⊢
    obtain ⟨v, r, e, h1, h2⟩ := h
    exact ⟨v, r, e, NodeAt.below hb t v h1, NodesAt.below hb ts r h2⟩
end
theorem NodeAt.iface {w : World} {t : T} {v : Value} (h : NodeAt w t v) : ∃ k b, v = .iface k (.pointer (some ⟨b, 0, none⟩)) := by
  cases t with
  | leaf ks => unfold NodeAt at h; obtain ⟨b, A, c, e, _⟩ := h; exact ⟨_, b, e⟩
  | node kids => unfold NodeAt at h; obtain ⟨b, A, c, vs, e, _⟩ := h; exact ⟨_, b, e⟩
end Go.Proofs.Ytnfaiblhjgmjgaa
