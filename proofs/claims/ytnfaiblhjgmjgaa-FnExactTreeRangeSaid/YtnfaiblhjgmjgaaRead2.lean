/-
  The program's reader of nodes: an inner node.
-/
import Derived.Test.YtnfaiblhjgmjgaaRead
import Derived.Outline
import Derived.IntWalk
namespace Go.Proofs.Ytnfaiblhjgmjgaa
open Go.RowKit Go.Proofs.YtnfaiblhjgmjgaaW.PrintWords

theorem infoNode : (Try.prog.info? 58).map (fun i => (i.zero, i.size, i.bytes)) = some (some .nilIface, 1, 16) := by kernel_rfl

structure KidsInv (w0 w w1 : World) (A : Option Addr) (c : Nat) (ns : List TN) (g next : Nat) (t : TN) (f : Nat) (tn : Array Value) (i : Nat) (acc : List T) (lv nx : Nat) (v : Value) (vs : List Value) (wr : World) : Prop where
  grown : w.grownBy wr (some g)
  blk : wr.heap[g]? = some (.cells #[.slice A ns.length c, .int .i64 nx] 92 (0, 0))
  tnb : wr.heap[w1.heap.size]? = some (.cells tn 89 (0, 0))
  own : wr.ownsRow (w1.heap.size + 1) 58 1 v vs.length vs
  hv1 : w.heap.size ≤ w1.heap.size
  hgw : g < w.heap.size
  stay : Stay w0 w.heap.size v.ownBlock wr (fun W => NodesAt W acc vs)
  len : acc.length = i
  full : fullL acc
  nxle : nx ≤ ns.length
  lvle : lv ≤ 31
  eq : rdKids (rdN ns f) t.f1 0 t.f2 [] 0 (next + 1) = rdKids (rdN ns f) t.f1 i (t.f2.drop i) acc lv nx

/-- A child has been read and found good. -/
structure KidsMid (w0 w w1 : World) (A : Option Addr) (c : Nat) (ns : List TN) (g : Nat) (tn : Array Value) (acc : List T) (nx : Nat) (v : Value) (vs : List Value) (k : T) (v2 : Value) (w3 : World) : Prop where
  grown : w.grownBy w3 (some g)
  blk : w3.heap[g]? = some (.cells #[.slice A ns.length c, .int .i64 nx] 92 (0, 0))
  tnb : w3.heap[w1.heap.size]? = some (.cells tn 89 (0, 0))
  own : w3.ownsRow (w1.heap.size + 1) 58 1 v vs.length vs
  hv1 : w.heap.size ≤ w1.heap.size
  hgw : g < w.heap.size
  stay : Stay w0 w.heap.size v.ownBlock w3 (fun W => NodesAt W acc vs)
  node : Stay w0 w.heap.size v.ownBlock w3 (fun W => NodeAt W k v2)
theorem KidsInv.mid {w0 w w1 : World} {A : Option Addr} {c : Nat} {ns : List TN} {g next : Nat} {t : TN} {f : Nat} {tn : Array Value} {i : Nat} {acc : List T} {lv nx : Nat} {v : Value} {vs : List Value} {wr : World}
    (h : KidsInv w0 w w1 A c ns g next t f tn i acc lv nx v vs wr) {w' : World} {nx' : Nat} {k : T} {v2 : Value} (hg : wr.grownBy w' (some g)) (hb : w'.heap[g]? = some (.cells #[.slice A ns.length c, .int .i64 nx'] 92 (0, 0)))
    (hs : Stay w0 wr.heap.size none w' (fun W => NodeAt W k v2)) (n : Nat) : KidsMid w0 w w1 A c ns g tn acc nx' v vs k v2 (w'.drewN n) := by
  have hgw := h.hgw
  have hv1 := h.hv1
  have hown : ∀ q, v.ownBlock = some q → w1.heap.size + 1 ≤ q ∧ q < wr.heap.size := fun q hq => ⟨own_base h.own q hq, own_lt h.own q hq⟩
  have hm : KidsMid w0 w w1 A c ns g tn acc nx' v vs k v2 w' := by
    refine ⟨h.grown.trans hg, hb, ?_, ?_, hv1, hgw, h.stay.other hg hgw, ?_⟩
    · exact blk_grown h.tnb hg (fun e => by injection e with e; omega)
    · refine h.own.kept hg ?_
      cases hq : v.ownBlock with
      | none => exact .inl rfl
      | some q => exact .inr (fun e => by injection e with e; have := hown q hq; omega)
    · exact (hs.row_lt v.ownBlock (fun q hq => (hown q hq).2)).lower h.grown.size
  exact ⟨⟨hm.grown.os, hm.grown.tape, hm.grown.output, hm.grown.size, hm.grown.block⟩, hm.blk, hm.tnb, own_move hm.own (fun _ _ => rfl), hv1, hgw, hm.stay.drewN n, hm.node.drewN n⟩
theorem KidsMid.next {w0 w w1 : World} {A : Option Addr} {c : Nat} {ns : List TN} {g next : Nat} {t : TN} {f : Nat} {tn : Array Value} {i : Nat} {acc : List T} {bl nx : Nat} {v : Value} {vs : List Value} {k : T} {v2 : Value} {w3 : World}
    (h : KidsMid w0 w w1 A c ns g tn acc nx v vs k v2 w3) {v1 : Value} {w4 : World} (hown : w4.ownsRow (w1.heap.size + 1) 58 1 v1 (vs ++ [v2]).length (vs ++ [v2])) (hg : w3.grownBy w4 v.ownBlock) (hat : v1.ownBlock = v.ownBlock ∨ ∃ b, v1.ownBlock = some b ∧ w3.heap.size ≤ b)
    (hlen : acc.length = i) (hfull : fullL acc) (hk : k.full) (hnx : nx ≤ ns.length) (hbl : bl ≤ 31)
    (heq : rdKids (rdN ns f) t.f1 0 t.f2 [] 0 (next + 1) = rdKids (rdN ns f) t.f1 (i + 1) (t.f2.drop (i + 1)) (acc ++ [k]) bl nx) :
    KidsInv w0 w w1 A c ns g next t f tn (i + 1) (acc ++ [k]) bl nx v1 (vs ++ [v2]) w4 := by
  have hgw := h.hgw
  have hv1 := h.hv1
  have ho : ∀ q, v.ownBlock = some q → w1.heap.size + 1 ≤ q := fun q hq => own_base h.own q hq
  refine ⟨?_, ?_, ?_, hown, hv1, hgw, ?_, by simp [hlen], (fullL_append _ _).2 ⟨hfull, by simp [fullL, hk]⟩, hnx, hbl, heq⟩
  · refine ⟨hg.os.trans h.grown.os, hg.tape.trans h.grown.tape, hg.output.trans h.grown.output, Nat.le_trans h.grown.size hg.size, fun q hq hne => ?_⟩
    exact (hg.block q (Nat.lt_of_lt_of_le hq h.grown.size) (fun e => by have := ho q e.symm; omega)).trans (h.grown.block q hq hne)
  · exact blk_grown h.blk hg (fun e => by have := ho g e.symm; omega)
  · exact blk_grown h.tnb hg (fun e => by have := ho _ e.symm; omega)
  · exact ((h.stay.and h.node).grown hg hat).imp (fun W hW => hW.1.append (NodesAt.one hW.2))

theorem rdyes_node {w0 w w1 : World} {A : Option Addr} {c : Nat} {ns : List TN} {g next : Nat} {t : TN} {f : Nat} {tn : Array Value} {i : Nat} {acc : List T} {lv nx : Nat} {v : Value} {vs : List Value} {wr : World}
    (h : KidsInv w0 w w1 A c ns g next t f tn i acc lv nx v vs wr) {A7 : Option Addr} {c7 : Nat} (hv : v = .slice A7 acc.length c7) (h1 : acc.length ≤ c7) (h2 : c7 ≤ 9223372036854775807) (hraw : ∀ W : World, (∀ k, v.ownBlock = some k → W.heap[k]? = wr.heap[k]?) → RawAt W A7 vs)
    {w' : World} {b : Nat} (hbe : Below wr.heap.size wr w') (hge : wr.heap.size ≤ b) (hblk : w'.heap[b]? = some (.cells #[.int .i64 (cntL 0 acc), .slice A7 acc.length c7] 78 (0, 0))) (n : Nat) :
    RdYes w0 w A c ns g (.node acc) (lv + 1) nx (.returned (.tuple #[.iface 72 (.pointer (some ⟨b, 0, none⟩)), .int .i64 ((lv : Int) + 1)])) (w'.drewN n) := by
  have hgw := h.hgw
  have hv1 := h.hv1
  refine ⟨_, rfl, ?_, blk_drewN (blk_below h.blk hbe) n, ?_⟩
  · exact grown_step (grown_step h.grown hbe) (pw_below_drewN (Below.refl _ _) n)
  · intro W hW hsz hk
    have hlt : b < w'.heap.size := (Array.getElem?_eq_some_iff.1 hblk).1
    have hag : ∀ k, w.heap.size ≤ k → k < wr.heap.size → W.heap[k]? = wr.heap[k]? := fun k q1 q2 => (hk k q1 (Nat.lt_of_lt_of_le q2 hbe.size) (by simp)).trans (hbe.block k q2)
    unfold NodeAt
    refine ⟨b, A7, c7, vs, rfl, (hk b (Nat.le_trans h.grown.size hge) hlt (by simp)).trans hblk, h1, h2, hraw W (fun k hq => hag k ?_ (own_lt h.own k hq)), ?_⟩
    · have := own_base h.own k hq
      omega
    · exact h.stay.full W hW (Nat.le_trans hbe.size hsz) (fun k q1 q2 _ => hag k q1 q2)

set_option maxHeartbeats 2000000 in
set_option maxRecDepth 100000 in
theorem node_inner (w0 w : World) (A : Option Addr) (c : Nat) (ns : List TN) (g next f : Nat) (t : TN) (hf : f ≤ 30) (ih : RdOk ns f) (hs : RdHas w0 w A c ns g next (30 - f) t) (hl : t.f0 = false) (hb : ¬ nodeBad t) :
    Calls Try.prog 51 #[.pointer (some ⟨g, 0, none⟩), .int .i64 ((30 - f : Nat) : Int)] w (fun e w' => RdPost w0 w A c ns g e w' (rdN ns (f + 1) next)) := by
  have IH := Aside0.mk ih
  obtain ⟨deep, hdeep⟩ : ∃ d, d = 30 - f := ⟨_, rfl⟩
  rw [← hdeep] at hs ⊢
  have HDEEP := Aside0.mk hdeep
  clear ih hdeep
  obtain ⟨hi, hn, hlt, hdp, hat⟩ := hs
  have h0 : w.cell? ⟨g, 0, none⟩ = some (.slice A ns.length c) := (blkcell hi.blk 0).trans rfl
  have h1 : w.cell? ⟨g, 1, none⟩ = some (.int .i64 next) := (blkcell hi.blk 1).trans rfl
  have hz : w.frozen? ⟨g, 1, none⟩ = false := by simp [World.frozen?, hi.blk]
  obtain ⟨ad, A1, c1, A2, c2, rfl, e0, e1, e2, e3, l1, k1, l2, k2⟩ := PFnTree.at_T89 hi.ns (next : Int) (by omega) (by omega)
  rw [rd_at ns next t hat] at e0 e1 e2 e3 l1 k1 l2 k2
  rw [hl] at e0
  have hrec : rdN ns (f + 1) next = rdFin t.f3 (rdKids (rdN ns f) t.f1 0 t.f2 [] 0 (next + 1)) := by
    simp only [rdN, hat, hl, if_neg hb, Bool.false_eq_true, if_false]
  have HREC := Aside0.mk hrec
  have HB := Aside0.mk hb
  clear hb hrec hl
  have b0 := pw_cell_below hi.below e0
  have b1 := pw_cell_below hi.below e1
  have b2 := pw_cell_below hi.below e2
  have b3 := pw_cell_below hi.below e3
  rw [Int.toNat_natCast] at b0 b1 b2 b3
  have hd1 : decide ((ns.length : Int) ≤ (next : Int)) = false := decide_eq_false (by omega)
  have hd2 : decide (ns.length ≤ next) = false := decide_eq_false (by omega)
  have hd3 : decide ((30 : Int) < (deep : Int)) = false := decide_eq_false (by omega)
  have hd4 : decide (30 < deep) = false := decide_eq_false (by omega)
  have hsz : g < w.heap.size := (Array.getElem?_eq_some_iff.1 hi.blk).1
  have HI := Aside0.mk hi
  have K1 := Aside0.mk k1
  have K2 := Aside0.mk k2
  have HAT := Aside0.mk hat
  clear hi k1 k2 hat e0 e1 e2 e3
  go_enter Try.func51, Try.ntmps51
  go_wp2
  go_quiet (fail)
  have hq := Aside0.mk (pw_below_drewN (Below.refl w.heap.size w) nq)
  have q0 : (w.drewN nq).cell? ⟨g, 0, none⟩ = _ := h0
  have q1 : (w.drewN nq).cell? ⟨g, 1, none⟩ = _ := h1
  have qz : (w.drewN nq).frozen? ⟨g, 1, none⟩ = _ := hz
  have p0 : (w.drewN nq).cell? _ = _ := b0
  have p1 : (w.drewN nq).cell? _ = _ := b1
  have p2 : (w.drewN nq).cell? _ = _ := b2
  have p3 : (w.drewN nq).cell? _ = _ := b3
  have qs : g < (w.drewN nq).heap.size := hsz
  generalize w.drewN nq = w1 at hq q0 q1 qz p0 p1 p2 p3 qs ⊢
  have qb : (ad.add (next * 4)).block < w1.heap.size := World.block_lt_of_cell? _ _ p0
  clear h0 h1 hz b0 b1 b2 b3 hsz
  go_wp2
  go_region
  obtain ⟨hg1, hg2, hg3⟩ := node_good HB.out
  have ha1 : decide ((t.f2.length : Int) < 2) = false := decide_eq_false (by omega)
  have ha2 : decide (t.f2.length < 2) = false := decide_eq_false (by omega)
  have ha3 : decide ((4 : Int) < (t.f2.length : Int)) = false := decide_eq_false (by omega)
  have ha4 : decide (4 < t.f2.length) = false := decide_eq_false (by omega)
  have ha5 : ((t.f1.length : Int) == (t.f2.length : Int) - 1) = true := beq_iff_eq.2 (by omega)
  have ha6 : ((t.f1.length : Int) != (t.f2.length : Int) - 1) = false := by rw [bne_eq_false_iff_eq]; omega
  have HG3 := Aside0.mk hg3
  clear hg3
  have HST : Aside0 (KidsInv w0 w w1 (some ad) c ns g next t f #[.bool false, .slice A1 t.f1.length c1, .slice A2 t.f2.length c2, .int .i64 t.f3] 0 [] 0 (next + 1) (.slice none 0 0) [] (((w1.setCell ⟨g, 1, none⟩ (.int .i64 ((next : Int) + 1))).alloc (.cells #[.bool false, .slice A1 t.f1.length c1, .slice A2 t.f2.length c2, .int .i64 t.f3] 89)).drew)) := by
    have hgb := blk_below HI.out.blk hq.out
    have hsz : (w1.setCell ⟨g, 1, none⟩ (.int .i64 ((next : Int) + 1))).heap.size = w1.heap.size := by simp [World.setCell]
    refine ⟨⟨?_, ?_, ?_, ?_, hq.out.size, (Array.getElem?_eq_some_iff.1 HI.out.blk).1, ?_, rfl, by simp [fullL], by omega, by omega, by simp⟩⟩
    · exact grown_drew (grown_alloc ((grown_of_below hq.out (some g)).trans (grown_set w1 g 1 _)) _)
    · exact blk_drew (blk_alloc (blk_put hgb 1 _ rfl) _)
    · have := blk_new (w1.setCell ⟨g, 1, none⟩ (.int .i64 ((next : Int) + 1))) (.cells #[.bool false, .slice A1 t.f1.length c1, .slice A2 t.f2.length c2, .int .i64 t.f3] 89)
      rw [hsz] at this
      exact blk_drew this
    · exact own_nil _ _ _ _
    · intro W _ _ _
      exact NodesAt.nil
  go_wp2
  clear q0 q1 qz p0 p1 p2 p3 qs qb
  go_loopw [7, 8, 102] (fun v lvv iv wr => ∃ (i : Nat) (acc : List T) (lv nx : Nat) (vs : List Value), i ≤ t.f2.length ∧ iv = .int .i64 i ∧ lvv = .int .i64 lv ∧ Aside0 (KidsInv w0 w w1 (some ad) c ns g next t f #[.bool false, .slice A1 t.f1.length c1, .slice A2 t.f2.length c2, .int .i64 t.f3] i acc lv nx v vs wr)) (fun _ _ iv _ => t.f2.length - (intOf iv).toNat)
  case atStart => exact ⟨0, [], 0, next + 1, [], Nat.zero_le _, rfl, rfl, HST⟩
  case round =>
    obtain ⟨i, acc, lv, nx, vs, hil, rfl, rfl, HV⟩ := hrel
    have m0 : wr.cell? ⟨g, 1, none⟩ = some (.int .i64 nx) := (blkcell HV.out.blk 1).trans rfl
    have m1 : wr.cell? ⟨w1.heap.size, 1, none⟩ = some (.slice A1 t.f1.length c1) := (blkcell HV.out.tnb 1).trans rfl
    have m3 : wr.cell? ⟨w1.heap.size, 3, none⟩ = some (.int .i64 t.f3) := (blkcell HV.out.tnb 3).trans rfl
    have hbw : Aside0 (Below w0.heap.size w0 wr) := ⟨HI.out.below.grown HV.out.grown HI.out.below.size (fun k e => by injection e with e; have := HI.out.ge; omega)⟩
    have hnx := HV.out.nxle
    have hlv := HV.out.lvle
    have hfd := HDEEP.out
    by_cases hlt2 : i < t.f2.length
    · obtain ⟨x, hx⟩ : ∃ x, t.f2[i]? = some x := ⟨_, List.getElem?_eq_getElem hlt2⟩
      obtain ⟨ad2, c', rfl, _, hK, hcell⟩ := Kd.C_get K2.out 0 (i : Int) (by omega) (by omega)
      have hK' : c' = [Value.int .i64 x] := by
        have := hK
        rw [Int.toNat_natCast, List.getD_eq_getElem?_getD, hx] at this
        exact this
      subst hK'
      have hc0 := hcell 0 _ rfl
      have hcw : wr.cell? (ad2.add i) = some (.int .i64 x) := pw_cell_below hbw.out (by simpa [Kd.int, Kd.scalar] using hc0)
      have hds := Aside0.mk (drop_step t.f2 i x hx)
      clear hc0 hcell hK hx
      have hstep : rdKids (rdN ns f) t.f1 0 t.f2 [] 0 (next + 1) = rdKids (rdN ns f) t.f1 i (x :: t.f2.drop (i + 1)) acc lv nx := by rw [HV.out.eq, hds.out]
      by_cases hxn : x = (nx : Int)
      · have e1 : (x != (nx : Int)) = false := by rw [bne_eq_false_iff_eq]; exact hxn
        have e2 : (x == (nx : Int)) = true := beq_iff_eq.2 hxn
        have hcall := IH.out w0 wr (some ad) c g nx ⟨hbw.out, HI.out.ge, HV.out.blk, HI.out.ns⟩ hnx
        have harg : ((31 - f : Nat) : Int) = (deep : Int) + 1 := by omega
        rw [harg] at hcall
        clear hfd harg
        cases hr : rdN ns f nx with
        | none =>
          rw [hr] at hcall
          have hnone : rdN ns (f + 1) next = none := by
            rw [HREC.out, hstep]
            simp only [rdKids, hxn, ne_eq, not_true_eq_false, if_false, hr, rdFin]
          have HN := Aside0.mk hnone
          have HGR := Aside0.mk HV.out.grown
          have HC : Aside0 (Calls Try.prog 51 #[.pointer (some ⟨g, 0, none⟩), .int .i64 ((deep : Int) + 1)] wr (fun e w' => e = .returned (.tuple #[.nilIface, .int .i64 0]) ∧ wr.grownBy w' (some g))) := ⟨hcall⟩
          clear hnone hstep hxn hcall hr
          go_wp2_with (go_at_call 51; refine HC.out.mono ?_; rintro e w' ⟨rfl, hg2⟩; have HG2 := Aside0.mk hg2; clear hg2)
          go_quiet (fail)
          go_wp2
          go_ret2
          rw [HN.out]
          exact ⟨rfl, HGR.out.trans (grown_step HG2.out (pw_below_drewN (Below.refl _ _) _))⟩
        | some r =>
          obtain ⟨k, bl, nx'⟩ := r
          rw [hr] at hcall
          obtain ⟨p1, p2, p3⟩ := rdN_props ns f nx k bl nx' hr
          have HP := Aside0.mk p1
          have HR := Aside0.mk hr
          have HC : Aside0 (Calls Try.prog 51 #[.pointer (some ⟨g, 0, none⟩), .int .i64 ((deep : Int) + 1)] wr (fun e w' => ∃ v, e = .returned (.tuple #[v, .int .i64 bl]) ∧ wr.grownBy w' (some g) ∧ w'.heap[g]? = some (.cells #[.slice (some ad) ns.length c, .int .i64 nx'] 92 (0, 0)) ∧ Stay w0 wr.heap.size none w' (fun W => NodeAt W k v))) := ⟨hcall⟩
          have HSTEP := Aside0.mk hstep
          have HXN := Aside0.mk hxn
          clear hcall hr p1 hstep hxn
          go_wp2_with (go_at_call 51; refine HC.out.mono ?_; rintro e w' ⟨v2, rfl, hg2, hb2, hs2⟩; have HG2 := Aside0.mk hg2; have HB2 := Aside0.mk hb2; have HS2 := Aside0.mk hs2; clear hg2 hb2 hs2)
          have hbw2 : Aside0 (Below w0.heap.size w0 w') := ⟨hbw.out.grown HG2.out hbw.out.size (fun k e => by injection e with e; have := HI.out.ge; omega)⟩
          have hnode := HS2.out.now hbw2.out
          obtain ⟨kk, b2, hv2⟩ := hnode.iface
          subst hv2
          have HMID := Aside0.mk (fun n => HV.out.mid HG2.out HB2.out HS2.out n)
          have hvl : vs.length ≤ 4 := by
            have e1 := HV.out.len
            have e2 := (HV.out.stay.now hbw.out).length
            omega
          have TN2 := (HMID.out 0).tnb
          have m1' : w'.cell? ⟨w1.heap.size, 1, none⟩ = some (.slice A1 t.f1.length c1) := (blkcell TN2 1).trans rfl
          clear TN2 m0 m1 m3 hcw
          by_cases hi0 : 0 < i
          · have o1 : decide ((0 : Int) < (i : Int)) = true := decide_eq_true (by omega)
            have o2 : decide (0 < i) = true := decide_eq_true (by omega)
            by_cases hbl : bl = lv
            · have o3 : ((bl : Int) != (lv : Int)) = false := by rw [bne_eq_false_iff_eq, hbl]
              have o4 : (bl != lv) = false := by rw [bne_eq_false_iff_eq, hbl]
              have HBL := Aside0.mk hbl
              have hlen1 := HG3.out
              obtain ⟨ad1, c', rfl, _, hK, hcell⟩ := Kd.C_get K1.out ⟨#[]⟩ ((i - 1 : Nat) : Int) (by omega) (by omega)
              have hK' : c' = [Value.string (t.f1.getD (i - 1) ⟨#[]⟩)] := by
                have := hK
                rw [Int.toNat_natCast] at this
                exact this
              subst hK'
              have hc0 := hcell 0 _ rfl
              have hcw2 : w'.cell? (ad1.add (i - 1)) = some (.string (t.f1.getD (i - 1) ⟨#[]⟩)) := pw_cell_below hbw2.out (by simpa [Kd.string, Kd.scalar] using hc0)
              have hkk := (nodeAt_cell0 hnode).1
              have z1 : (0 : Int) ≤ (i : Int) - 1 := by omega
              have z2 : (1 : Int) ≤ (i : Int) := by omega
              have z3 : (i : Int) - 1 < (t.f1.length : Int) := by omega
              have z4 : IntKind.i64.wrap ((i : Int) - 1) = (i : Int) - 1 := IntWalk.i64_in _ (by omega)
              have z5 : ((i : Int) - 1).toNat = i - 1 := by omega
              have HN2 := Aside0.mk hnode
              clear hc0 hcell hK hbl hnode hlen1
              have hml := m_least_leaf
              have hmi := m_least_inner
              by_cases hle : k.least = t.f1.getD (i - 1) ⟨#[]⟩
              · have e5 : (k.least.toList == (t.f1[i - 1]?.getD ⟨#[]⟩).toList) = true := by rw [bs_eq, ← List.getD_eq_getElem?_getD]; exact decide_eq_true hle
                have HEQ : Aside0 (rdKids (rdN ns f) t.f1 0 t.f2 [] 0 (next + 1) = rdKids (rdN ns f) t.f1 (i + 1) (t.f2.drop (i + 1)) (acc ++ [k]) bl nx') := by
                  refine ⟨?_⟩
                  rw [HSTEP.out]
                  simp only [rdKids, HXN.out, ne_eq, not_true_eq_false, if_false, HR.out]
                  rw [if_neg (fun q => q.2.elim (fun q => q HBL.out) (fun q => q hle))]
                clear hle
                rcases hkk with rfl | rfl
                · go_quiet ((go_at_call 105; exact Calls.quiet_of_same (least_l HN2.out HP.out _)))
                  have hmid := HMID.out nq
                  generalize w'.drewN nq = w3 at hmid ⊢
                  have MID := Aside0.mk hmid
                  have hown3 := Aside0.mk hmid.own
                  have hsz3 : w1.heap.size + 1 ≤ w3.heap.size := (Array.getElem?_eq_some_iff.1 hmid.tnb).1
                  have hl3 := Aside0.mk (show (vs.length + 1) * 16 ≤ 140737488355328 by omega)
                  clear hmid
                  go_wp2_with (at_builtin; refine print_append (w0 := w3) (w1.heap.size + 1) rfl (.tmp 143) (.tmp 145) 76 58 .nilIface 16 rfl Try.underlying76 infoNode rfl (by decide) u7 vs _ rfl rfl rfl hown3.out (Below.refl _ _) hsz3 hl3.out ?_; intro v1 w4 hown4 _ hg4 hat4; have HO4 := Aside0.mk hown4; have HG4 := Aside0.mk hg4; have HA4 := Aside0.mk hat4; clear hown4 hg4 hat4)
                  go_roundw
                  case rel => exact ⟨i + 1, acc ++ [k], bl, nx', vs ++ [_], by omega, by go_num, rfl, ⟨MID.out.next HO4.out HG4.out HA4.out HV.out.len HV.out.full HP.out p2 (by omega) HEQ.out⟩⟩
                  case measure => simp [intOf]; omega
                · go_quiet ((go_at_call 106; exact Calls.quiet_of_same (least_n HN2.out HP.out _)))
                  have hmid := HMID.out nq
                  generalize w'.drewN nq = w3 at hmid ⊢
                  have MID := Aside0.mk hmid
                  have hown3 := Aside0.mk hmid.own
                  have hsz3 : w1.heap.size + 1 ≤ w3.heap.size := (Array.getElem?_eq_some_iff.1 hmid.tnb).1
                  have hl3 := Aside0.mk (show (vs.length + 1) * 16 ≤ 140737488355328 by omega)
                  clear hmid
                  go_wp2_with (at_builtin; refine print_append (w0 := w3) (w1.heap.size + 1) rfl (.tmp 143) (.tmp 145) 76 58 .nilIface 16 rfl Try.underlying76 infoNode rfl (by decide) u7 vs _ rfl rfl rfl hown3.out (Below.refl _ _) hsz3 hl3.out ?_; intro v1 w4 hown4 _ hg4 hat4; have HO4 := Aside0.mk hown4; have HG4 := Aside0.mk hg4; have HA4 := Aside0.mk hat4; clear hown4 hg4 hat4)
                  go_roundw
                  case rel => exact ⟨i + 1, acc ++ [k], bl, nx', vs ++ [_], by omega, by go_num, rfl, ⟨MID.out.next HO4.out HG4.out HA4.out HV.out.len HV.out.full HP.out p2 (by omega) HEQ.out⟩⟩
                  case measure => simp [intOf]; omega
              · have e5 : (k.least.toList == (t.f1[i - 1]?.getD ⟨#[]⟩).toList) = false := by rw [bs_eq, ← List.getD_eq_getElem?_getD]; exact decide_eq_false hle
                have hnone : rdN ns (f + 1) next = none := by
                  rw [HREC.out, HSTEP.out]
                  simp only [rdKids, HXN.out, ne_eq, not_true_eq_false, if_false, HR.out]
                  rw [if_pos ⟨hi0, .inr hle⟩]
                  rfl
                have HN := Aside0.mk hnone
                have HGR := Aside0.mk HV.out.grown
                clear hnone hle
                rcases hkk with rfl | rfl
                · go_quiet ((go_at_call 105; exact Calls.quiet_of_same (least_l HN2.out HP.out _)))
                  go_wp2
                  go_ret2
                  rw [HN.out]
                  exact ⟨rfl, HGR.out.trans (grown_step HG2.out (pw_below_drewN (Below.refl _ _) _))⟩
                · go_quiet ((go_at_call 106; exact Calls.quiet_of_same (least_n HN2.out HP.out _)))
                  go_wp2
                  go_ret2
                  rw [HN.out]
                  exact ⟨rfl, HGR.out.trans (grown_step HG2.out (pw_below_drewN (Below.refl _ _) _))⟩
            · have o3 : ((bl : Int) != (lv : Int)) = true := by rw [bne_iff_ne]; omega
              have o4 : (bl != lv) = true := bne_iff_ne.2 hbl
              have hnone : rdN ns (f + 1) next = none := by
                rw [HREC.out, HSTEP.out]
                simp only [rdKids, HXN.out, ne_eq, not_true_eq_false, if_false, HR.out]
                rw [if_pos ⟨hi0, .inl hbl⟩]
                rfl
              have HN := Aside0.mk hnone
              have HGR := Aside0.mk HV.out.grown
              clear hbl hnode hnone
              go_quiet (fail)
              go_wp2
              go_ret2
              rw [HN.out]
              exact ⟨rfl, HGR.out.trans (grown_step HG2.out (pw_below_drewN (Below.refl _ _) _))⟩
          · have o1 : decide ((0 : Int) < (i : Int)) = false := decide_eq_false (by omega)
            have o2 : decide (0 < i) = false := decide_eq_false (by omega)
            have HEQ : Aside0 (rdKids (rdN ns f) t.f1 0 t.f2 [] 0 (next + 1) = rdKids (rdN ns f) t.f1 (i + 1) (t.f2.drop (i + 1)) (acc ++ [k]) bl nx') := by
              refine ⟨?_⟩
              rw [HSTEP.out]
              simp only [rdKids, HXN.out, ne_eq, not_true_eq_false, if_false, HR.out]
              rw [if_neg (fun q => hi0 q.1)]
            clear hnode
            go_quiet (fail)
            have hmid := HMID.out nq
            generalize w'.drewN nq = w3 at hmid ⊢
            have MID := Aside0.mk hmid
            have hown3 := Aside0.mk hmid.own
            have hsz3 : w1.heap.size + 1 ≤ w3.heap.size := (Array.getElem?_eq_some_iff.1 hmid.tnb).1
            have hl3 := Aside0.mk (show (vs.length + 1) * 16 ≤ 140737488355328 by omega)
            clear hmid
            go_wp2_with (at_builtin; refine print_append (w0 := w3) (w1.heap.size + 1) rfl (.tmp 143) (.tmp 145) 76 58 .nilIface 16 rfl Try.underlying76 infoNode rfl (by decide) u7 vs _ rfl rfl rfl hown3.out (Below.refl _ _) hsz3 hl3.out ?_; intro v1 w4 hown4 _ hg4 hat4; have HO4 := Aside0.mk hown4; have HG4 := Aside0.mk hg4; have HA4 := Aside0.mk hat4; clear hown4 hg4 hat4)
            go_roundw
            case rel => exact ⟨i + 1, acc ++ [k], bl, nx', vs ++ [_], by omega, by go_num, rfl, ⟨MID.out.next HO4.out HG4.out HA4.out HV.out.len HV.out.full HP.out p2 (by omega) HEQ.out⟩⟩
            case measure => simp [intOf]; omega
      · have e1 : (x != (nx : Int)) = true := bne_iff_ne.2 hxn
        have e2 : (x == (nx : Int)) = false := beq_eq_false_iff_ne.2 hxn
        have hnone : rdN ns (f + 1) next = none := by
          rw [HREC.out, hstep]
          simp only [rdKids, ne_eq, hxn, not_false_eq_true, if_true, rdFin]
        have HN := Aside0.mk hnone
        have HGR := Aside0.mk HV.out.grown
        clear hnone hstep hxn hfd
        go_wp2
        go_ret2
        rw [HN.out]
        exact ⟨rfl, HGR.out⟩
    · obtain ⟨A7, c7, hv7, q1, q2, q3, q4, q5⟩ := raw_of_own HV.out.own
      have hnodes := HV.out.stay.now hbw.out
      have hln := hnodes.length
      have hdn : t.f2.drop i = [] := List.drop_eq_nil_of_le (by omega)
      have heq := HV.out.eq
      rw [hdn] at heq
      simp only [rdKids] at heq
      rw [hln] at hv7 q1
      have HV7 := Aside0.mk hv7
      have Q5 := Aside0.mk q5
      have HNI := Aside0.mk (newInner_any A7 c7 acc vs wr (by omega) q4 hnodes)
      have TNB := Aside0.mk HV.out.tnb
      clear q3 q4 q5 hnodes hln hdn m0 m1
      have hcase : rdN ns (f + 1) next = if cntL 0 acc ≠ t.f3 then none else some (.node acc, lv + 1, nx) := by rw [HREC.out, heq]; rfl
      clear heq hfd
      subst hv7
      by_cases hcnt : cntL 0 acc = t.f3
      · have e5 : (cntL 0 acc != t.f3) = false := by rw [bne_eq_false_iff_eq]; exact hcnt
        have e6 : (cntL 0 acc == t.f3) = true := beq_iff_eq.2 hcnt
        rw [if_neg (fun q => q hcnt)] at hcase
        have HN := Aside0.mk hcase
        clear hcase hcnt
        go_wp2_with (go_at_call 44; refine HNI.out.mono ?_; rintro e w' ⟨b, rfl, hge, hbe, hblk⟩; have HGE := Aside0.mk hge; have HBE := Aside0.mk hbe; have HBLK := Aside0.mk hblk; clear hge hbe hblk)
        have n0 : w'.cell? ⟨b, 0, none⟩ = some (.int .i64 (cntL 0 acc)) := (blkcell HBLK.out 0).trans rfl
        have n3 : w'.cell? ⟨w1.heap.size, 3, none⟩ = some (.int .i64 t.f3) := (blkcell (blk_below TNB.out HBE.out) 3).trans rfl
        clear m3
        go_quiet (fail)
        go_wp2
        go_ret2
        rw [HN.out]
        exact rdyes_node HV.out rfl q1 q2 Q5.out HBE.out HGE.out HBLK.out nq
      · have e5 : (cntL 0 acc != t.f3) = true := bne_iff_ne.2 hcnt
        have e6 : (cntL 0 acc == t.f3) = false := beq_eq_false_iff_ne.2 hcnt
        rw [if_pos hcnt] at hcase
        have HN := Aside0.mk hcase
        have HGR := Aside0.mk HV.out.grown
        clear hcase hcnt
        go_wp2_with (go_at_call 44; refine HNI.out.mono ?_; rintro e w' ⟨b, rfl, hge, hbe, hblk⟩; have HGE := Aside0.mk hge; have HBE := Aside0.mk hbe; have HBLK := Aside0.mk hblk; clear hge hbe hblk)
        have n0 : w'.cell? ⟨b, 0, none⟩ = some (.int .i64 (cntL 0 acc)) := (blkcell HBLK.out 0).trans rfl
        have n3 : w'.cell? ⟨w1.heap.size, 3, none⟩ = some (.int .i64 t.f3) := (blkcell (blk_below TNB.out HBE.out) 3).trans rfl
        clear m3
        go_quiet (fail)
        go_wp2
        go_ret2
        rw [HN.out]
        exact ⟨rfl, grown_step (grown_step HGR.out HBE.out) (pw_below_drewN (Below.refl _ _) _)⟩

/-- What the reader computes, at every depth. -/
theorem node_any (ns : List TN) (hn : ns.length ≤ 5000) : ∀ f, f ≤ 31 → RdOk ns f
  | 0, _ => by
    intro w0 w A c g next hi hnx
    have h : rdN ns 0 next = none := rfl
    rw [h]
    exact node_end w0 w A c ns g next 31 hi hn (.inr (by omega)) (by omega) (by omega)
  | f + 1, hf => by
    intro w0 w A c g next hi hnx
    have ih := node_any ns hn f (by omega)
    have hd : 31 - (f + 1) = 30 - f := by omega
    rw [hd]
    cases hx : ns[next]? with
    | none =>
      have h : rdN ns (f + 1) next = none := by simp [rdN, hx]
      rw [h]
      exact node_end w0 w A c ns g next (30 - f) hi hn (.inl (by simpa using hx)) (by omega) (by omega)
    | some t =>
      have hs : RdHas w0 w A c ns g next (30 - f) t := ⟨hi, hn, (List.getElem?_eq_some_iff.1 hx).1, by omega, hx⟩
      cases hl : t.f0 with
      | true =>
        by_cases hb : leafBad (30 - f) t
        · have h : rdN ns (f + 1) next = none := by simp only [rdN, hx, hl, if_pos hb, if_true]
          rw [h]
          exact node_leaf_bad w0 w A c ns g next (30 - f) t hs hl hb
        · have h : rdN ns (f + 1) next = some (.leaf t.f1, 0, next + 1) := by simp only [rdN, hx, hl, if_neg hb, if_true]
          rw [h]
          exact node_leaf w0 w A c ns g next (30 - f) t hs hl hb
      | false =>
        by_cases hb : nodeBad t
        · have h : rdN ns (f + 1) next = none := by simp only [rdN, hx, hl, if_pos hb, Bool.false_eq_true, if_false]
          rw [h]
          exact node_node_bad w0 w A c ns g next (30 - f) t hs hl hb
        · exact node_inner w0 w A c ns g next f t (by omega) ih hs hl hb
end Go.Proofs.Ytnfaiblhjgmjgaa
