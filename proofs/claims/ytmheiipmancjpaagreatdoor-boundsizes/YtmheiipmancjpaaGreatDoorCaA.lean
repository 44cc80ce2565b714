/- Proved here: words for worlds; slots.New makes something new. By an AI agent. -/
import Derived.Test.YtmheiipmancjpaaGreatDoorProg
import Derived.WalkKit
import Derived.WalkSpells
import Derived.WalkLawsBesides
import Derived.OneCell
import Derived.Test.YtmheiipmancjpaaGreatDoorAbM
set_option linter.unusedVariables false
set_option linter.unusedSimpArgs false
section
/-! Words for worlds. -/
namespace Go.Bound
open Go.RowKit
/-- A block of so many cells that may all be written. -/
def Blk (wr : World) (b T n : Nat) : Prop := ∃ arr : Array Value, wr.heap[b]? = some (.cells arr T (0, 0)) ∧ arr.size = n
theorem Blk.new (w : World) (arr : Array Value) (T n : Nat) (h : arr.size = n) : Blk (w.alloc (.cells arr T)) w.heap.size T n := ⟨arr, by show (w.heap.push _)[w.heap.size]? = _; simp, h⟩
theorem Blk.at {wr : World} {b T n o : Nat} (h : Blk wr b T n) (ho : o < n) : ∃ v, wr.cell? ⟨b, o, none⟩ = some v := by
  obtain ⟨arr, ha, hs⟩ := h
  exact ⟨arr[o], by simp [World.cell?, ha, hs, ho]⟩
theorem Blk.free {wr : World} {b T n : Nat} (h : Blk wr b T n) (o : Nat) : wr.frozen? ⟨b, o, none⟩ = false := by
  obtain ⟨arr, ha, hs⟩ := h
  simp [World.frozen?, ha]
theorem Blk.set {wr : World} {b T n : Nat} (h : Blk wr b T n) (c o : Nat) (v : Value) : Blk (wr.setCell ⟨c, o, none⟩ v) b T n := by
  obtain ⟨arr, ha, hs⟩ := h
  by_cases e : b = c
  · subst e
    have hlt := lt_of_block ha
    have h' : wr.heap[b] = .cells arr T (0, 0) := by simpa [Array.getElem?_eq_getElem hlt] using ha
    refine ⟨arr.setIfInBounds o v, ?_, by simpa using hs⟩
    show (wr.heap.modify b _)[b]? = _
    rw [Array.getElem?_eq_getElem (by simpa using hlt), Array.getElem_modify_self, h']
    rfl
  · exact ⟨arr, by rw [Below.heap_setCell _ _ _ _ (by simpa using e)]; exact ha, hs⟩
theorem Blk.lt {wr : World} {b T n : Nat} (h : Blk wr b T n) : b < wr.heap.size := by
  obtain ⟨arr, ha, _⟩ := h
  exact lt_of_block ha
end Go.Bound
end
section
namespace Go.Proofs
open Go.RowKit Go.Bound
open Go.Abs (Made1 Made2 Stays)
set_option maxHeartbeats 400000
theorem slotsNew (n f : Int) (w : World) (h1 : 1 ≤ n) (h2 : n ≤ 256) (h3 : 1 ≤ f) (h4 : f ≤ 4294967295) :
    Calls Tryz.prog 85 #[.int .i64 n, .int .u32 f] w (Made2 w) := by
  go_enter Tryz.func85, Tryz.ntmps85
  go_wp2
  go_loopw [23] (fun i wr => ∃ k : Nat, (k : Int) ≤ n ∧ i = .int .i64 k ∧ Below w.heap.size w wr ∧ Blk wr w.heap.size 358 513) (fun i _ => (n - intOf i).toNat)
  case atStart => exact ⟨0, by omega, rfl, (Below.refl _ _).alloc (Nat.le_refl _) _, Blk.new _ _ _ _ (by rw [Array.size_setIfInBounds]; kernel_rfl)⟩
  case round =>
    obtain ⟨k, hk, rfl, hb, ha⟩ := hrel
    by_cases hlt : (k : Int) < n
    · obtain ⟨v, hv⟩ := ha.at (o := 1 + k * 2 + 1) (by omega)
      have hf := ha.free (1 + k * 2 + 1)
      have ha' := fun v => ha.set w.heap.size (1 + k * 2 + 1) v
      have ha'' : Hid _ := ha'
      clear ha' ha
      go_wp2
      go_roundw
      case rel => exact ⟨k + 1, by omega, by go_num, hb.setCell (Nat.le_refl _) _, ha''.out _⟩
      case measure => simp [intOf]; omega
    · go_wp2
      exact bodyPost_ret (v := .tuple #[.pointer (some ⟨w.heap.size, 0, none⟩), .int .i64 0]) (by simp [results, Tryz.results85, go_sem]) rfl ⟨w.heap.size, 0, Nat.le_refl _, ha.lt, rfl, hb.size, hb.block, hb.os, hb.output⟩
end Go.Proofs
end
