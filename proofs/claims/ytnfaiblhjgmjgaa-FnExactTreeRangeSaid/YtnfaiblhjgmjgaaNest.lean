/-
  The reference's l3Nest: a nested tree read from the nodes.
-/
import Derived.Test.YtnfaiblhjgmjgaaRoot2
import Derived.Outline
namespace Go.Proofs.Ytnfaiblhjgmjgaa
open Go.RowKit Go.Proofs.YtnfaiblhjgmjgaaW.PrintWords

abbrev LX := PFnTree.S53
abbrev kLX := PFnTree.k53

def nestKids (rd : Nat → Option (LX × Nat)) : List Int → List LX → Nat → Option (List LX × Nat)
  | [], acc, next => some (acc, next)
  | a :: rest, acc, next =>
    if a ≠ (next : Int) then none else
    match rd next with
    | none => none
    | some (k, next') => nestKids rd rest (acc ++ [k]) next'
def nestFin (n : Nat) : Option (List LX × Nat) → Option (LX × Nat)
  | none => none
  | some (kids, nx) => if 0 < n then some (⟨false, [], kids⟩, nx) else none
/-- fuel: how deep it may still go, 21 at the root. -/
def nestN (ns : List TN) : Nat → Nat → Option (LX × Nat)
  | 0, _ => none
  | f + 1, at_ =>
    match ns[at_]? with
    | none => none
    | some t =>
      if t.f0 then (if t.f2.length = 0 then some (⟨true, t.f1, []⟩, at_ + 1) else none)
      else nestFin t.f2.length (nestKids (nestN ns f) t.f2 [] (at_ + 1))

def NestNo (w : World) (e : Ending) (w' : World) : Prop := ∃ l A1 n1 c1 A2 n2 c2 at', e = .returned (.tuple #[.agg #[.bool l, .slice A1 n1 c1, .slice A2 n2 c2], .int .i64 at', .bool false]) ∧ Below w.heap.size w w'
def NestYes (w0 w : World) (x : LX) (nx : Nat) (e : Ending) (w' : World) : Prop := ∃ A1 c1 A2 c2, e = .returned (.tuple #[.agg #[.bool x.f0, .slice A1 x.f1.length c1, .slice A2 x.f2.length c2], .int .i64 nx, .bool true]) ∧ Below w.heap.size w w' ∧
  Stay w0 w.heap.size none w' (fun W => kLX.K W x [.bool x.f0, .slice A1 x.f1.length c1, .slice A2 x.f2.length c2])
def NestPost (w0 w : World) (e : Ending) (w' : World) : Option (LX × Nat) → Prop
  | none => NestNo w e w'
  | some (x, nx) => NestYes w0 w x nx e w'
def NestOk (ns : List TN) (fuel : Nat) : Prop := ∀ (w0 w : World) (A : Option Addr) (c : Nat) (at_ : Nat), Below w0.heap.size w0 w → Kd.C kTN w0 A ns.length ns → at_ ≤ ns.length →
  Calls Try.prog 46 #[.slice A ns.length c, .int .i64 at_, .int .i64 ((21 - fuel : Nat) : Int)] w (fun e w' => NestPost w0 w e w' (nestN ns fuel at_))

set_option maxHeartbeats 1000000 in
set_option maxRecDepth 100000 in
theorem nest_end (w : World) (A : Option Addr) (c n at_ depth : Nat) (hn : n ≤ 5000) (h : n ≤ at_ ∨ 20 < depth) (hat : at_ ≤ 5000) (hd : depth ≤ 21) :
    Calls Try.prog 46 #[.slice A n c, .int .i64 at_, .int .i64 (depth : Int)] w (NestNo w) := by
  have d0 : decide ((at_ : Int) < 0) = false := decide_eq_false (by omega)
  by_cases hge : n ≤ at_
  · have d1 : decide ((n : Int) ≤ (at_ : Int)) = true := decide_eq_true (by omega)
    have d2 : decide (n ≤ at_) = true := decide_eq_true (by omega)
    clear hge h
    go_enter Try.func46, Try.ntmps46
    go_wp2
    refine bodyPost_ret (v := .tuple #[.agg #[.bool false, .slice none 0 0, .slice none 0 0], .int .i64 at_, .bool false]) (by simp [results, Try.results46, go_sem]) rfl ⟨false, none, 0, 0, none, 0, 0, _, rfl, ?_⟩
    exact below_alloc (Below.refl _ _) _
  · have d1 : decide ((n : Int) ≤ (at_ : Int)) = false := decide_eq_false (by omega)
    have d2 : decide (n ≤ at_) = false := decide_eq_false (by omega)
    have d3 : decide ((20 : Int) < (depth : Int)) = true := decide_eq_true (by omega)
    have d4 : decide (20 < depth) = true := decide_eq_true (by omega)
    clear hge h
    go_enter Try.func46, Try.ntmps46
    go_wp2
    refine bodyPost_ret (v := .tuple #[.agg #[.bool false, .slice none 0 0, .slice none 0 0], .int .i64 at_, .bool false]) (by simp [results, Try.results46, go_sem]) rfl ⟨false, none, 0, 0, none, 0, 0, _, rfl, ?_⟩
    exact below_alloc (Below.refl _ _) _

set_option maxHeartbeats 1000000 in
set_option maxRecDepth 100000 in
theorem nest_leaf (w0 w : World) (A : Option Addr) (c : Nat) (ns : List TN) (at_ depth : Nat) (t : TN) (hb : Below w0.heap.size w0 w) (hns : Kd.C kTN w0 A ns.length ns) (hn : ns.length ≤ 5000) (hlt : at_ < ns.length) (hat : ns[at_]? = some t) (hd : depth ≤ 20) (hl : t.f0 = true) :
    Calls Try.prog 46 #[.slice A ns.length c, .int .i64 at_, .int .i64 (depth : Int)] w (fun e w' => NestPost w0 w e w' (if t.f2.length = 0 then some (⟨true, t.f1, []⟩, at_ + 1) else none)) := by
  have d0 : decide ((at_ : Int) < 0) = false := decide_eq_false (by omega)
  have d1 : decide ((ns.length : Int) ≤ (at_ : Int)) = false := decide_eq_false (by omega)
  have d2 : decide (ns.length ≤ at_) = false := decide_eq_false (by omega)
  have d3 : decide ((20 : Int) < (depth : Int)) = false := decide_eq_false (by omega)
  have d4 : decide (20 < depth) = false := decide_eq_false (by omega)
  obtain ⟨ad, A1, c1, A2, c2, rfl, e0, e1, e2, e3, l1, k1, l2, k2⟩ := PFnTree.at_T89 hns (at_ : Int) (by omega) (by omega)
  rw [rd_at ns at_ t hat] at e0 e1 e2 e3 l1 k1 l2 k2
  rw [hl] at e0
  clear hl
  have b0 := pw_cell_below hb e0
  have b1 := pw_cell_below hb e1
  have b2 := pw_cell_below hb e2
  have b3 := pw_cell_below hb e3
  rw [Int.toNat_natCast] at b0 b1 b2 b3
  have qb : (ad.add (at_ * 4)).block < w.heap.size := World.block_lt_of_cell? _ _ b0
  have K1 := Aside0.mk k1
  have K2 := Aside0.mk k2
  have HBW := Aside0.mk hb
  have HNS := Aside0.mk hns
  have HAT := Aside0.mk hat
  clear k1 k2 hb hns hat e0 e1 e2 e3
  by_cases hz : t.f2.length = 0
  · have z1 : ((t.f2.length : Int) == 0) = true := by rw [hz]; rfl
    rw [if_pos hz]
    clear hz
    go_enter Try.func46, Try.ntmps46
    go_wp2
    go_region
    go_wp2
    refine bodyPost_ret (v := .tuple #[.agg #[.bool true, .slice A1 t.f1.length c1, .slice none 0 0], .int .i64 ((at_ : Int) + 1), .bool true]) (by simp [results, Try.results46, go_sem]) rfl ?_
    refine ⟨A1, c1, none, 0, by simp, ?_, ?_⟩
    · repeat (first | exact Below.refl _ _ | refine below_drew ?_ | refine below_alloc ?_ _)
    · intro W hW _ _
      exact PFnTree.k53_mk W ⟨true, t.f1, []⟩ l1 (Kd.C_below K1.out hW) (Nat.le_refl _) ⟨rfl, by simp, fun h => by simp at h⟩
  · have z1 : ((t.f2.length : Int) == 0) = false := beq_eq_false_iff_ne.2 (by omega)
    rw [if_neg hz]
    clear hz
    go_enter Try.func46, Try.ntmps46
    go_wp2
    go_region
    go_wp2
    refine bodyPost_ret (v := .tuple #[.agg #[.bool true, .slice A1 t.f1.length c1, .slice none 0 0], .int .i64 ((at_ : Int) + 1), .bool false]) (by simp [results, Try.results46, go_sem]) rfl ?_
    refine ⟨true, A1, _, c1, none, 0, 0, _, rfl, ?_⟩
    repeat (first | exact Below.refl _ _ | refine below_drew ?_ | refine below_alloc ?_ _)

theorem infoLX : (Try.prog.info? 53).map (fun i => (i.zero, i.size, i.bytes)) = some (some (.agg #[.bool false, .slice none 0 0, .slice none 0 0]), 3, 56) := by kernel_rfl

structure NestInv (w0 w : World) (ns : List TN) (at_ : Nat) (t : TN) (f : Nat) (tn : Array Value) (i : Nat) (acc : List LX) (nx : Nat) (v : Value) (wr : World) : Prop where
  below : Below w.heap.size w wr
  res : wr.heap[w.heap.size]? = some (.cells #[.bool false, .slice none 0 0, .slice none 0 0] 53 (0, 0))
  tnb : wr.heap[w.heap.size + 1]? = some (.cells tn 89 (0, 0))
  out : wr.heap[w.heap.size + 1 + 1]? = some (.cells #[.bool false, .slice none 0 0, v] 53 (0, 0))
  own : ∃ inner, wr.ownsRow (w.heap.size + 1 + 1 + 1) 53 3 v acc.length inner ∧ Stay w0 (w.heap.size + 1 + 1 + 1) v.ownBlock wr (fun W => Reps (kLX.K W) 3 acc inner)
  len : acc.length = i
  nxle : nx ≤ ns.length
  eq : nestKids (nestN ns f) t.f2 [] (at_ + 1) = nestKids (nestN ns f) (t.f2.drop i) acc nx
  ile : i + 1 ≤ nx

theorem nestN_le (ns : List TN) : ∀ (f n : Nat) (x : LX) (nx : Nat), nestN ns f n = some (x, nx) → n < nx ∧ nx ≤ ns.length := by
  intro f
  induction f with
  | zero => intro n x nx h; simp [nestN] at h
  | succ f ih =>
    have key : ∀ (rest : List Int) (acc : List LX) (m : Nat) (r : List LX) (nx : Nat), nestKids (nestN ns f) rest acc m = some (r, nx) → m ≤ ns.length → m ≤ nx ∧ nx ≤ ns.length := by
      intro rest
      induction rest with
      | nil => intro acc m r nx h hm; simp only [nestKids, Option.some.injEq, Prod.mk.injEq] at h; omega
      | cons a rest ih2 =>
        intro acc m r nx h hm
        unfold nestKids at h
        split at h
        · simp at h
        · split at h
          · simp at h
          · rename_i k next' hk
            have q := ih _ _ _ hk
            have := ih2 _ _ _ _ h q.2
            omega
    intro n x nx h
    unfold nestN at h
    split at h
    · simp at h
    · rename_i t ht
      have hlt : n < ns.length := (List.getElem?_eq_some_iff.1 ht).1
      split at h
      · split at h
        · simp only [Option.some.injEq, Prod.mk.injEq] at h; omega
        · simp at h
      · unfold nestFin at h
        split at h
        · simp at h
        · rename_i kids m hk
          split at h
          · simp only [Option.some.injEq, Prod.mk.injEq] at h
            have := key _ _ _ _ _ hk (by omega)
            omega
          · simp at h

theorem NestInv.next {w0 w : World} {ns : List TN} {at_ : Nat} {t : TN} {f : Nat} {tn : Array Value} {i : Nat} {acc : List LX} {nx : Nat} {v : Value} {wr : World} (h : NestInv w0 w ns at_ t f tn i acc nx v wr)
    {inner : List Value} (hown : wr.ownsRow (w.heap.size + 1 + 1 + 1) 53 3 v acc.length inner) (hstay : Stay w0 (w.heap.size + 1 + 1 + 1) v.ownBlock wr (fun W => Reps (kLX.K W) 3 acc inner))
    {x : LX} {nx' : Nat} {A1 : Option Addr} {c1 : Nat} {A2 : Option Addr} {c2 : Nat} {w1 : World} (hb1 : Below wr.heap.size wr w1) (hs1 : Stay w0 wr.heap.size none w1 (fun W => kLX.K W x [.bool x.f0, .slice A1 x.f1.length c1, .slice A2 x.f2.length c2])) (o : Obj)
    {v1 : Value} {w2 : World} (hown2 : w2.ownsRow (w.heap.size + 1 + 1 + 1) 53 3 v1 (acc.length + 1) (inner ++ [.bool x.f0, .slice A1 x.f1.length c1, .slice A2 x.f2.length c2])) (hg2 : (w1.alloc o).grownBy w2 v.ownBlock)
    (hat : v1.ownBlock = v.ownBlock ∨ ∃ b, v1.ownBlock = some b ∧ (w1.alloc o).heap.size ≤ b) (hnx : nx' ≤ ns.length) (hin : i + 2 ≤ nx')
    (heq : nestKids (nestN ns f) t.f2 [] (at_ + 1) = nestKids (nestN ns f) (t.f2.drop (i + 1)) (acc ++ [x]) nx') :
    NestInv w0 w ns at_ t f tn (i + 1) (acc ++ [x]) nx' v1 (w2.setCell ⟨w.heap.size + 1 + 1, 2, none⟩ v1) := by
  have hb2 : Below wr.heap.size wr (w1.alloc o) := hb1.alloc hb1.size o
  have ho : ∀ q, v.ownBlock = some q → w.heap.size + 1 + 1 + 1 ≤ q ∧ q < wr.heap.size := fun q hq => ⟨own_base hown q hq, own_lt hown q hq⟩
  have hne : ∀ k, k < w.heap.size + 1 + 1 + 1 → some k ≠ v.ownBlock := fun k hk e => by have := ho k e.symm; omega
  have hw2 : ∀ {k : Nat} {ob : Obj}, wr.heap[k]? = some ob → k < w.heap.size + 1 + 1 + 1 → w2.heap[k]? = some ob := fun {k ob} hk hlt => blk_grown (blk_below hk hb2) hg2 (hne k hlt)
  have ho1 : ∀ q, v1.ownBlock = some q → w.heap.size + 1 + 1 + 1 ≤ q := fun q hq => own_base hown2 q hq
  refine ⟨?_, ?_, ?_, blk_put (hw2 h.out (by omega)) 2 _ rfl, ⟨inner ++ [.bool x.f0, .slice A1 x.f1.length c1, .slice A2 x.f2.length c2], ?_, ?_⟩, by simp [h.len], hnx, heq, hin⟩
  · exact ((h.below.trans (hb2.mono h.below.size)).grown hg2 (Nat.le_trans h.below.size hb2.size) (fun k e => by have := ho k e; omega)).setCell (show w.heap.size ≤ w.heap.size + 1 + 1 by omega) _
  · exact blk_far (hw2 h.res (by omega)) (show w.heap.size ≠ w.heap.size + 1 + 1 by omega) _
  · exact blk_far (hw2 h.tnb (by omega)) (show w.heap.size + 1 ≠ w.heap.size + 1 + 1 by omega) _
  · have := hown2.kept (grown_set w2 (w.heap.size + 1 + 1) 2 v1) (by
      cases hq : v1.ownBlock with
      | none => exact .inl rfl
      | some q => exact .inr (fun e => by injection e with e; have := ho1 q hq; omega))
    simpa using this
  · have s1 : Stay w0 (w.heap.size + 1 + 1 + 1) v.ownBlock (w1.alloc o) (fun W => Reps (kLX.K W) 3 acc inner) := hstay.below hb2
    have hge : w.heap.size + 1 + 1 + 1 ≤ wr.heap.size := (Array.getElem?_eq_some_iff.1 h.out).1
    have s2 : Stay w0 (w.heap.size + 1 + 1 + 1) v.ownBlock (w1.alloc o) (fun W => kLX.K W x [.bool x.f0, .slice A1 x.f1.length c1, .slice A2 x.f2.length c2]) := ((hs1.row_lt v.ownBlock (fun q hq => (ho q hq).2)).lower hge).below ((Below.refl _ _).alloc (Nat.le_refl _) o)
    have s3 := ((s1.and s2).grown hg2 hat).other (grown_set w2 (w.heap.size + 1 + 1) 2 v1) (by omega)
    exact s3.imp (fun W hW => hW.1.snoc hW.2 rfl)

theorem nest_stay {w0 wr Wf : World} {acc : List LX} {Av : Option Addr} {cv : Nat} {inner : List Value} {base a : Nat} (hown : wr.ownsRow base 53 3 (.slice Av acc.length cv) acc.length inner)
    (hstay : Stay w0 base (Value.slice Av acc.length cv).ownBlock wr (fun W => Reps (kLX.K W) 3 acc inner)) (ha : a ≤ base) (hsz : wr.heap.size ≤ Wf.heap.size) (hag : ∀ k, base ≤ k → k < wr.heap.size → Wf.heap[k]? = wr.heap[k]?) :
    Stay w0 a none Wf (fun W => kLX.K W ⟨false, [], acc⟩ [.bool false, .slice none 0 0, .slice Av acc.length cv]) := by
  intro W hW hs hk
  have hag2 : ∀ k, base ≤ k → k < wr.heap.size → W.heap[k]? = wr.heap[k]? := fun k h1 h2 => (hk k (by omega) (by omega) (by simp)).trans (hag k h1 h2)
  have hR := hstay.full W hW (by omega) (fun k h1 h2 _ => hag2 k h1 h2)
  have hO : W.ownsRow base 53 3 (.slice Av acc.length cv) acc.length inner := own_move hown (fun k hq => hag2 k (own_base hown k hq) (own_lt hown k hq))
  obtain ⟨A', c', he, hl, hC⟩ := OwnRow.reads (R := kLX.K W) ⟨inner, hO, hR⟩
  injection he with h1 h2 h3
  subst h1 h3
  exact PFnTree.k53_mk W ⟨false, [], acc⟩ (Nat.le_refl 0) ⟨rfl, by simp, fun h => by simp at h⟩ hl hC

set_option maxHeartbeats 2000000 in
set_option maxRecDepth 100000 in
theorem nest_inner (w0 w : World) (A : Option Addr) (c : Nat) (ns : List TN) (at_ f : Nat) (t : TN) (hf : f ≤ 20) (ih : NestOk ns f) (hb : Below w0.heap.size w0 w) (hns : Kd.C kTN w0 A ns.length ns) (hn : ns.length ≤ 5000) (hlt : at_ < ns.length) (hat : ns[at_]? = some t) (hl : t.f0 = false) :
    Calls Try.prog 46 #[.slice A ns.length c, .int .i64 at_, .int .i64 ((20 - f : Nat) : Int)] w (fun e w' => NestPost w0 w e w' (nestFin t.f2.length (nestKids (nestN ns f) t.f2 [] (at_ + 1)))) := by
  have IH := Aside0.mk ih
  obtain ⟨depth, hdeep⟩ : ∃ d, d = 20 - f := ⟨_, rfl⟩
  rw [← hdeep]
  have hd : depth ≤ 20 := by omega
  have HDEEP := Aside0.mk hdeep
  clear ih hdeep
  have d0 : decide ((at_ : Int) < 0) = false := decide_eq_false (by omega)
  have d1 : decide ((ns.length : Int) ≤ (at_ : Int)) = false := decide_eq_false (by omega)
  have d2 : decide (ns.length ≤ at_) = false := decide_eq_false (by omega)
  have d3 : decide ((20 : Int) < (depth : Int)) = false := decide_eq_false (by omega)
  have d4 : decide (20 < depth) = false := decide_eq_false (by omega)
  obtain ⟨ad, A1, c1, A2, c2, rfl, e0, e1, e2, e3, l1, k1, l2, k2⟩ := PFnTree.at_T89 hns (at_ : Int) (by omega) (by omega)
  rw [rd_at ns at_ t hat] at e0 e1 e2 e3 l1 k1 l2 k2
  rw [hl] at e0
  clear hl
  have b0 := pw_cell_below hb e0
  have b1 := pw_cell_below hb e1
  have b2 := pw_cell_below hb e2
  have b3 := pw_cell_below hb e3
  rw [Int.toNat_natCast] at b0 b1 b2 b3
  have qb : (ad.add (at_ * 4)).block < w.heap.size := World.block_lt_of_cell? _ _ b0
  have K1 := Aside0.mk k1
  have K2 := Aside0.mk k2
  have HBW := Aside0.mk hb
  have HNS := Aside0.mk hns
  have HAT := Aside0.mk hat
  clear k1 k2 hb hns hat e0 e1 e2 e3
  go_enter Try.func46, Try.ntmps46
  go_wp2
  have HST : Aside0 (NestInv w0 w ns at_ t f #[.bool false, .slice A1 t.f1.length c1, .slice A2 t.f2.length c2, .int .i64 t.f3] 0 [] (at_ + 1) (.slice none 0 0) (((w.alloc (.cells #[.bool false, .slice none 0 0, .slice none 0 0] 53)).alloc (.cells #[.bool false, .slice A1 t.f1.length c1, .slice A2 t.f2.length c2, .int .i64 t.f3] 89)).alloc (.cells #[.bool false, .slice none 0 0, .slice none 0 0] 53))) := by
    refine ⟨⟨?_, blk_alloc (blk_alloc (blk_new w _) _) _, ?_, ?_, ⟨[], own_nil _ _ _ _, ?_⟩, rfl, by omega, by simp, by omega⟩⟩
    · repeat (first | exact Below.refl _ _ | refine below_drew ?_ | refine below_alloc ?_ _)
    · have := blk_new (w.alloc (.cells #[.bool false, .slice none 0 0, .slice none 0 0] 53)) (.cells #[.bool false, .slice A1 t.f1.length c1, .slice A2 t.f2.length c2, .int .i64 t.f3] 89)
      rw [World.size_alloc] at this
      exact blk_alloc this _
    · have := blk_new ((w.alloc (.cells #[.bool false, .slice none 0 0, .slice none 0 0] 53)).alloc (.cells #[.bool false, .slice A1 t.f1.length c1, .slice A2 t.f2.length c2, .int .i64 t.f3] 89)) (.cells #[.bool false, .slice none 0 0, .slice none 0 0] 53)
      rw [World.size_alloc, World.size_alloc] at this
      exact this
    · intro W _ _ _
      exact Reps.none _ _
  clear b0 b1 b2 b3 qb
  go_loopw [11, 12] (fun nv iv wr => ∃ (i : Nat) (acc : List LX) (nx : Nat) (v : Value), i ≤ t.f2.length ∧ iv = .int .i64 i ∧ nv = .int .i64 nx ∧ Aside0 (NestInv w0 w ns at_ t f #[.bool false, .slice A1 t.f1.length c1, .slice A2 t.f2.length c2, .int .i64 t.f3] i acc nx v wr)) (fun _ iv _ => t.f2.length - (intOf iv).toNat)
  case atStart => exact ⟨0, [], at_ + 1, _, Nat.zero_le _, rfl, rfl, HST⟩
  case round =>
    obtain ⟨i, acc, nx, v, hil, rfl, rfl, HV⟩ := hrel
    have m0 : wr.cell? ⟨w.heap.size + 1, 2, none⟩ = some (.slice A2 t.f2.length c2) := (blkcell HV.out.tnb 2).trans rfl
    have o0 : wr.cell? ⟨w.heap.size + 1 + 1, 0, none⟩ = some (.bool false) := (blkcell HV.out.out 0).trans rfl
    have o1 : wr.cell? ⟨w.heap.size + 1 + 1, 1, none⟩ = some (.slice none 0 0) := (blkcell HV.out.out 1).trans rfl
    have o2 : wr.cell? ⟨w.heap.size + 1 + 1, 2, none⟩ = some v := (blkcell HV.out.out 2).trans rfl
    have r0 : wr.cell? ⟨w.heap.size, 0, none⟩ = some (.bool false) := (blkcell HV.out.res 0).trans rfl
    have r1 : wr.cell? ⟨w.heap.size, 1, none⟩ = some (.slice none 0 0) := (blkcell HV.out.res 1).trans rfl
    have r2 : wr.cell? ⟨w.heap.size, 2, none⟩ = some (.slice none 0 0) := (blkcell HV.out.res 2).trans rfl
    have f0 : wr.frozen? ⟨w.heap.size, 0, none⟩ = false := blk_frozen HV.out.res 0
    have f1 : wr.frozen? ⟨w.heap.size, 1, none⟩ = false := blk_frozen HV.out.res 1
    have f2 : wr.frozen? ⟨w.heap.size, 2, none⟩ = false := blk_frozen HV.out.res 2
    have hnx := HV.out.nxle
    have hbw : Aside0 (Below w0.heap.size w0 wr) := ⟨HBW.out.trans (HV.out.below.mono HBW.out.size)⟩
    obtain ⟨inner, hown, hstay⟩ := HV.out.own
    obtain ⟨Av, cv, hv⟩ := own_slice hown
    have HOWN := Aside0.mk hown
    have HSTAY := Aside0.mk hstay
    clear hown hstay
    subst hv
    by_cases hlt2 : i < t.f2.length
    · obtain ⟨x, hx⟩ : ∃ x, t.f2[i]? = some x := ⟨_, List.getElem?_eq_getElem hlt2⟩
      obtain ⟨ad2, c', rfl, _, hK, hcell⟩ := Kd.C_get K2.out 0 (i : Int) (by omega) (by omega)
      have hK' : c' = [Value.int .i64 x] := by
        have := hK
        rw [Int.toNat_natCast, List.getD_eq_getElem?_getD, hx] at this
        exact this
      subst hK'
      have hc0 := hcell 0 _ rfl
      have hcw : wr.cell? (ad2.add i) = some (.int .i64 x) := pw_cell_below hbw.out (by simpa [Kd.int, Kd.scalar] using hc0)
      have hds := Aside0.mk (drop_step t.f2 i x hx)
      clear hc0 hcell hK hx
      have hstep := Aside0.mk (show nestKids (nestN ns f) t.f2 [] (at_ + 1) = nestKids (nestN ns f) (x :: t.f2.drop (i + 1)) acc nx by rw [HV.out.eq, hds.out])
      by_cases hxn : x = (nx : Int)
      · have e1 : (x != (nx : Int)) = false := by rw [bne_eq_false_iff_eq]; exact hxn
        have e2 : (x == (nx : Int)) = true := beq_iff_eq.2 hxn
        have HXN := Aside0.mk hxn
        have hdq := HDEEP.out
        have hcall := IH.out w0 wr (some ad) c nx hbw.out HNS.out hnx
        have harg : ((21 - f : Nat) : Int) = (depth : Int) + 1 := by omega
        rw [harg] at hcall
        clear hdq harg hxn
        cases hr : nestN ns f nx with
        | none =>
          rw [hr] at hcall
          have HC : Aside0 (Calls Try.prog 46 #[.slice (some ad) ns.length c, .int .i64 nx, .int .i64 ((depth : Int) + 1)] wr (fun e w' => ∃ l A1 n1 c1 A2 n2 c2 at', e = .returned (.tuple #[.agg #[.bool l, .slice A1 n1 c1, .slice A2 n2 c2], .int .i64 at', .bool false]) ∧ Below wr.heap.size wr w')) := ⟨hcall⟩
          have hnone : nestKids (nestN ns f) t.f2 [] (at_ + 1) = none := by
            rw [hstep.out]
            simp only [nestKids, HXN.out, ne_eq, not_true_eq_false, if_false, hr]
          have HN := Aside0.mk hnone
          clear hnone hcall hr
          go_wp2_with fail
          refine HC.out.mono ?_
          rintro e w' ⟨l, A3, n3, c3, A4, n4, c4, at3, rfl, hb3⟩
          have hbw3 : Aside0 (Below w.heap.size w w') := ⟨below_step HV.out.below hb3⟩
          have R3 := Aside0.mk (blk_below HV.out.res hb3)
          have O3 := Aside0.mk (blk_below HV.out.out hb3)
          have hs3 : w.heap.size + 1 + 1 < w'.heap.size := (Array.getElem?_eq_some_iff.1 O3.out).1
          have hs4 : w.heap.size < w'.heap.size := by omega
          clear m0 o0 o1 o2 r0 r1 r2 f0 f1 f2 hcw
          have o0 : w'.cell? ⟨w.heap.size + 1 + 1, 0, none⟩ = some (.bool false) := (blkcell O3.out 0).trans rfl
          have o1 : w'.cell? ⟨w.heap.size + 1 + 1, 1, none⟩ = some (.slice none 0 0) := (blkcell O3.out 1).trans rfl
          have o2 : w'.cell? ⟨w.heap.size + 1 + 1, 2, none⟩ = some (.slice Av acc.length cv) := (blkcell O3.out 2).trans rfl
          have r0 : w'.cell? ⟨w.heap.size, 0, none⟩ = some (.bool false) := (blkcell R3.out 0).trans rfl
          have r1 : w'.cell? ⟨w.heap.size, 1, none⟩ = some (.slice none 0 0) := (blkcell R3.out 1).trans rfl
          have r2 : w'.cell? ⟨w.heap.size, 2, none⟩ = some (.slice none 0 0) := (blkcell R3.out 2).trans rfl
          have f0 : w'.frozen? ⟨w.heap.size, 0, none⟩ = false := blk_frozen R3.out 0
          have f1 : w'.frozen? ⟨w.heap.size, 1, none⟩ = false := blk_frozen R3.out 1
          have f2 : w'.frozen? ⟨w.heap.size, 2, none⟩ = false := blk_frozen R3.out 2
          clear hb3
          go_wp2
          refine bodyPost_ret (v := .tuple #[.agg #[.bool false, .slice none 0 0, .slice Av acc.length cv], .int .i64 nx, .bool false]) (by simp [results, Try.results46, go_sem, r0, r1, r2, hs4]) rfl ?_
          rw [HN.out]
          refine ⟨false, none, 0, 0, Av, acc.length, cv, _, rfl, ?_⟩
          repeat (first | exact hbw3.out | refine below_drew ?_ | refine below_alloc ?_ _ | refine below_set ?_ (Nat.le_refl _))
        | some r =>
          obtain ⟨k, nx'⟩ := r
          rw [hr] at hcall
          have HC : Aside0 (Calls Try.prog 46 #[.slice (some ad) ns.length c, .int .i64 nx, .int .i64 ((depth : Int) + 1)] wr (fun e w' => ∃ A1 c1 A2 c2, e = .returned (.tuple #[.agg #[.bool k.f0, .slice A1 k.f1.length c1, .slice A2 k.f2.length c2], .int .i64 nx', .bool true]) ∧ Below wr.heap.size wr w' ∧ Stay w0 wr.heap.size none w' (fun W => kLX.K W k [.bool k.f0, .slice A1 k.f1.length c1, .slice A2 k.f2.length c2]))) := ⟨hcall⟩
          obtain ⟨hq1, hq2⟩ := nestN_le ns f nx k nx' hr
          have heq : nestKids (nestN ns f) t.f2 [] (at_ + 1) = nestKids (nestN ns f) (t.f2.drop (i + 1)) (acc ++ [k]) nx' := by
            rw [hstep.out]
            simp only [nestKids, HXN.out, ne_eq, not_true_eq_false, if_false, hr]
          have HEQ := Aside0.mk heq
          have hile := HV.out.ile
          have hlen := Aside0.mk HV.out.len
          clear heq hcall hr
          go_wp2_with fail
          refine HC.out.mono ?_
          rintro e w' ⟨A3, c3, A4, c4, rfl, hb3, hs3⟩
          have HB3 := Aside0.mk hb3
          have HS3 := Aside0.mk hs3
          have O3 := Aside0.mk (blk_below HV.out.out hb3)
          have hs3 : w.heap.size + 1 + 1 < w'.heap.size := (Array.getElem?_eq_some_iff.1 O3.out).1
          have hs4 : w.heap.size < w'.heap.size := by omega
          clear m0 o0 o1 o2 r0 r1 r2 f0 f1 f2 hcw
          have o0 : w'.cell? ⟨w.heap.size + 1 + 1, 0, none⟩ = some (.bool false) := (blkcell O3.out 0).trans rfl
          have o1 : w'.cell? ⟨w.heap.size + 1 + 1, 1, none⟩ = some (.slice none 0 0) := (blkcell O3.out 1).trans rfl
          have o2 : w'.cell? ⟨w.heap.size + 1 + 1, 2, none⟩ = some (.slice Av acc.length cv) := (blkcell O3.out 2).trans rfl
          clear hb3
          have HOWN3 := Aside0.mk (pw_own_below HOWN.out (HB3.out.alloc HB3.out.size (.cells #[.bool k.f0, .slice A3 k.f1.length c3, .slice A4 k.f2.length c4] 53)))
          have hl3 := Aside0.mk (show (acc.length + 1) * 56 ≤ 140737488355328 by have := hlen.out; omega)
          have hfz : w'.frozen? ⟨w.heap.size + 1 + 1, 2, none⟩ = false := blk_frozen O3.out 2
          go_wp2_with (at_builtin; go_must (refine print_append_cells (w0 := w'.alloc (.cells #[.bool k.f0, .slice A3 k.f1.length c3, .slice A4 k.f2.length c4] 53)) (w.heap.size + 1 + 1 + 1) rfl (.tmp 81) (.tmp 83) 51 53 (.agg #[.bool false, .slice none 0 0, .slice none 0 0]) 3 56 rfl Try.underlying51 infoLX rfl (by decide) (by decide) (.slice Av acc.length cv) acc.length inner [.bool k.f0, .slice A3 k.f1.length c3, .slice A4 k.f2.length c4] rfl ?hx rfl ?ones HOWN3.out (Below.refl _ _) ?sz hl3.out ?_); (case hx => rw [World.size_alloc]; rfl); (case ones => intro u hu; simp only [List.mem_cons, List.not_mem_nil, or_false] at hu; rcases hu with rfl | rfl | rfl <;> rfl); (case sz => rw [World.size_alloc]; omega); intro v1 w1 hown4 _ hg4 hat4; obtain ⟨A5, c5, he5⟩ := own_slice hown4; subst he5; have HO4 := Aside0.mk hown4; have HG4 := Aside0.mk hg4; have HA4 := Aside0.mk hat4; have O4 := Aside0.mk (blk_grown (blk_alloc O3.out (.cells #[.bool k.f0, .slice A3 k.f1.length c3, .slice A4 k.f2.length c4] 53)) hg4 (fun e => by have := own_base HOWN3.out _ e.symm; omega)); clear hown4 hg4 hat4; have o4 : w1.cell? ⟨w.heap.size + 1 + 1, 2, none⟩ = some (.slice Av acc.length cv) := (blkcell O4.out 2).trans rfl; have hfz4 : w1.frozen? ⟨w.heap.size + 1 + 1, 2, none⟩ = false := blk_frozen O4.out 2)
          go_roundw
          case rel => exact ⟨i + 1, acc ++ [k], nx', _, by omega, by go_num, rfl, ⟨HV.out.next HOWN.out HSTAY.out HB3.out HS3.out _ HO4.out HG4.out HA4.out hq2 (by omega) HEQ.out⟩⟩
          case measure => simp [intOf]; omega
      · have e1 : (x != (nx : Int)) = true := bne_iff_ne.2 hxn
        have e2 : (x == (nx : Int)) = false := beq_eq_false_iff_ne.2 hxn
        have hnone : nestKids (nestN ns f) t.f2 [] (at_ + 1) = none := by
          rw [hstep.out]
          simp only [nestKids, ne_eq, hxn, not_false_eq_true, if_true]
        have HN := Aside0.mk hnone
        clear hnone hxn
        go_wp2
        refine bodyPost_ret (v := .tuple #[.agg #[.bool false, .slice none 0 0, .slice Av acc.length cv], .int .i64 nx, .bool false]) (by simp [results, Try.results46, go_sem, r0, r1, r2]) rfl ?_
        rw [HN.out]
        refine ⟨false, none, 0, 0, Av, acc.length, cv, _, rfl, ?_⟩
        repeat (first | exact HV.out.below | refine below_drew ?_ | refine below_alloc ?_ _ | refine below_set ?_ (Nat.le_refl _))
    · have hdn : t.f2.drop i = [] := List.drop_eq_nil_of_le (by omega)
      have heq := HV.out.eq
      rw [hdn] at heq
      simp only [nestKids] at heq
      have hlen := HV.out.len
      have hlen2 : acc.length = t.f2.length := by omega
      have HLEN := Aside0.mk hlen2
      have HEQF := Aside0.mk heq
      clear heq hdn hlen hlen2
      by_cases hp : 0 < t.f2.length
      · have z1 : decide ((0 : Int) < (t.f2.length : Int)) = true := decide_eq_true (by omega)
        have z2 : decide (0 < t.f2.length) = true := decide_eq_true (by omega)
        have HFIN := Aside0.mk (show nestFin t.f2.length (some (acc, nx)) = some (⟨false, [], acc⟩, nx) by simp [nestFin, hp])
        clear hp
        go_wp2
        go_region
        go_wp2
        refine bodyPost_ret (v := .tuple #[.agg #[.bool false, .slice none 0 0, .slice Av acc.length cv], .int .i64 nx, .bool true]) (by simp [results, Try.results46, go_sem, r0, r1, r2]) rfl ?_
        rw [HEQF.out, HFIN.out]
        refine ⟨none, 0, Av, cv, rfl, ?_, ?_⟩
        · repeat (first | exact HV.out.below | refine below_drew ?_ | refine below_alloc ?_ _ | refine below_set ?_ (Nat.le_refl _))
        · refine nest_stay HOWN.out HSTAY.out (by omega) (by simp [World.setCell, World.drew]) (fun k h1 h2 => ?_)
          show (World.setCell _ _ _).heap[k]? = _
          rw [Below.heap_setCell _ _ _ _ (show k ≠ w.heap.size by omega), Below.heap_setCell _ _ _ _ (show k ≠ w.heap.size by omega), Below.heap_setCell _ _ _ _ (show k ≠ w.heap.size by omega)]
      · have z1 : decide ((0 : Int) < (t.f2.length : Int)) = false := decide_eq_false (by omega)
        have z2 : decide (0 < t.f2.length) = false := decide_eq_false (by omega)
        have HFIN := Aside0.mk (show nestFin t.f2.length (some (acc, nx)) = none by simp [nestFin, hp])
        clear hp
        go_wp2
        go_region
        go_wp2
        refine bodyPost_ret (v := .tuple #[.agg #[.bool false, .slice none 0 0, .slice Av acc.length cv], .int .i64 nx, .bool false]) (by simp [results, Try.results46, go_sem, r0, r1, r2]) rfl ?_
        rw [HEQF.out, HFIN.out]
        refine ⟨false, none, 0, 0, Av, acc.length, cv, _, rfl, ?_⟩
        repeat (first | exact HV.out.below | refine below_drew ?_ | refine below_alloc ?_ _ | refine below_set ?_ (Nat.le_refl _))

theorem nest_any (ns : List TN) (hn : ns.length ≤ 5000) : ∀ f, f ≤ 21 → NestOk ns f
  | 0, _ => by
    intro w0 w A c at_ hb hns hat
    exact nest_end w A c ns.length at_ 21 hn (.inr (by omega)) (by omega) (by omega)
  | f + 1, hf => by
    intro w0 w A c at_ hb hns hat
    have ih := nest_any ns hn f (by omega)
    rw [show 21 - (f + 1) = 20 - f by omega]
    cases hx : ns[at_]? with
    | none =>
      have h : nestN ns (f + 1) at_ = none := by simp [nestN, hx]
      rw [h]
      exact nest_end w A c ns.length at_ (20 - f) hn (.inl (by simpa using hx)) (by omega) (by omega)
    | some t =>
      have hlt : at_ < ns.length := (List.getElem?_eq_some_iff.1 hx).1
      cases hl : t.f0 with
      | true =>
        have h : nestN ns (f + 1) at_ = if t.f2.length = 0 then some (⟨true, t.f1, []⟩, at_ + 1) else none := by simp only [nestN, hx, hl, if_true]
        rw [h]
        exact nest_leaf w0 w A c ns at_ (20 - f) t hb hns hn hlt hx (by omega) hl
      | false =>
        have h : nestN ns (f + 1) at_ = nestFin t.f2.length (nestKids (nestN ns f) t.f2 [] (at_ + 1)) := by simp only [nestN, hx, hl, Bool.false_eq_true, if_false]
        rw [h]
        exact nest_inner w0 w A c ns at_ f t (by omega) ih hb hns hn hlt hx hl
end Go.Proofs.Ytnfaiblhjgmjgaa
