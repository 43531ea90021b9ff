/-
  The program's root of a tree: the closure that checks the order, the reader of nodes, root itself.
-/
import Derived.Test.YtnfaiblhjgmjgaaWalk
namespace Go.Proofs.Ytnfaiblhjgmjgaa
open Go.RowKit Go.Proofs.YtnfaiblhjgmjgaaW.PrintWords

/-- What root's closure answers, and what it keeps. -/
def ordB (last : ByteArray) (first : Bool) (k : ByteArray) : Bool := decide (k.size ≤ 16) && (first || Op.bytesLess last.toList k.toList)
def ordStep (s : ByteArray × Bool) (k : ByteArray) : (ByteArray × Bool) × Bool := ((k, false), ordB s.1 s.2 k)

set_option maxHeartbeats 400000 in
set_option maxRecDepth 100000 in
theorem root1_any (k last : ByteArray) (first : Bool) (bl bf : Nat) (w : World) (hne : bl ≠ bf) (hl : w.heap[bl]? = some (.cells #[.string last] 9 (0, 0))) (hf : w.heap[bf]? = some (.cells #[.bool first] 4 (0, 0))) :
    Calls Try.prog 52 #[.string k, .pointer (some ⟨bf, 0, none⟩), .pointer (some ⟨bl, 0, none⟩)] w fun e w' => e = .returned (.bool (ordB last first k)) ∧ (w.setCell ⟨bl, 0, none⟩ (.string k)).setCell ⟨bf, 0, none⟩ (.bool false) = w' := by
  have hl0 : w.cell? ⟨bl, 0, none⟩ = some (.string last) := (blkcell hl 0).trans rfl
  have hf0 : w.cell? ⟨bf, 0, none⟩ = some (.bool first) := (blkcell hf 0).trans rfl
  have hlz : w.frozen? ⟨bl, 0, none⟩ = false := by simp [World.frozen?, hl]
  have hfz : w.frozen? ⟨bf, 0, none⟩ = false := by simp [World.frozen?, hf]
  have hne2 : ¬ (bf = bl) := fun e => hne e.symm
  clear hl hf
  by_cases h16 : k.size ≤ 16
  · have e : ordB last first k = (first || Op.bytesLess last.toList k.toList) := by simp [ordB, h16]
    rw [e]
    clear e
    cases first with
    | true =>
      go_enter Try.func52, Try.ntmps52
      go_wp2
      go_ret
      exact ⟨rfl, rfl⟩
    | false =>
      go_enter Try.func52, Try.ntmps52
      go_wp2
      go_ret
      exact ⟨by simp, rfl⟩
  · have e : ordB last first k = false := by simp [ordB, h16]
    rw [e]
    clear e
    go_enter Try.func52, Try.ntmps52
    go_wp2
    go_ret
    exact ⟨rfl, rfl⟩
def OrdJ (w0 : World) (bl bf : Nat) (s : ByteArray × Bool) (w : World) : Prop :=
  Below w0.heap.size w0 w ∧ w.heap[bl]? = some (.cells #[.string s.1] 9 (0, 0)) ∧ w.heap[bf]? = some (.cells #[.bool s.2] 4 (0, 0))
theorem root1_yield (w0 : World) (bl bf : Nat) (hne : bl ≠ bf) (hbl : w0.heap.size ≤ bl) (hbf : w0.heap.size ≤ bf) : Yield 52 #[.pointer (some ⟨bf, 0, none⟩), .pointer (some ⟨bl, 0, none⟩)] w0 (OrdJ w0 bl bf) ordStep := by
  refine ⟨fun args w => by kernel_rfl, fun s w h => h.1, ?_⟩
  rintro ⟨last, first⟩ k w ⟨hb, hl, hf⟩
  refine (root1_any k last first bl bf w hne hl hf).mono ?_
  rintro e w' ⟨rfl, rfl⟩
  refine ⟨rfl, (hb.setCell hbl _).setCell hbf _, ?_, ?_⟩
  · exact blk_far (blk_put hl 0 _ rfl) hne _
  · exact blk_put (blk_far hf (fun e => hne e.symm) _) 0 _ rfl
end Go.Proofs.Ytnfaiblhjgmjgaa
