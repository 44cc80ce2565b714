/- Proved here: Mark and Bound, the program's and the document's, for every size. By an AI agent. -/
import Derived.Test.YtmheiipmancjpaaGreatDoorCaH
import Derived.Deep.QuietTactic
import Derived.BigQuiet
set_option linter.unusedVariables false
set_option linter.unusedSimpArgs false
section
set_option linter.unusedVariables false
namespace Go.Proofs
open Go.RowKit Go.Bound
open Go.Abs (Made1 Made2 Stays)
set_option maxHeartbeats 1000000
set_option maxRecDepth 100000
theorem sizeB_bounds (o m q b d r c : Int) (h : sizeB o m q b d r c = true) : (1 ≤ o ∧ o ≤ 256) ∧ (1 ≤ m ∧ m ≤ 4) ∧ (1 ≤ q ∧ q ≤ 64) ∧ (1 ≤ b ∧ b ≤ 64) ∧ (1 ≤ d ∧ d ≤ 2000) ∧ (0 ≤ r ∧ r ≤ 2000) ∧ (1 ≤ c ∧ c ≤ 1048576) := by
  simp only [sizeB, inL, Bool.and_eq_true, decide_eq_true_eq] at h
  omega
theorem cells7 {w w1 : World} {T : Nat} {v0 v1 v2 v3 v4 v5 v6 : Value} (hb : Below (w.alloc (.cells #[v0, v1, v2, v3, v4, v5, v6] T)).heap.size (w.alloc (.cells #[v0, v1, v2, v3, v4, v5, v6] T)) w1) : w1.cell? ⟨w.heap.size, 0, none⟩ = some v0 ∧ w1.cell? ⟨w.heap.size, 1, none⟩ = some v1 ∧ w1.cell? ⟨w.heap.size, 2, none⟩ = some v2 ∧ w1.cell? ⟨w.heap.size, 3, none⟩ = some v3 ∧ w1.cell? ⟨w.heap.size, 4, none⟩ = some v4 ∧ w1.cell? ⟨w.heap.size, 5, none⟩ = some v5 ∧ w1.cell? ⟨w.heap.size, 6, none⟩ = some v6 := by
  have h0 : ∀ j, w1.cell? ⟨w.heap.size, j, none⟩ = (w.alloc (.cells #[v0, v1, v2, v3, v4, v5, v6] T)).cell? ⟨w.heap.size, j, none⟩ := fun j => hb.cell (p := ⟨w.heap.size, j, none⟩) (by simp)
  have hw : (w.alloc (.cells #[v0, v1, v2, v3, v4, v5, v6] T)).heap[w.heap.size]? = some (.cells #[v0, v1, v2, v3, v4, v5, v6] T (0, 0)) := by show (w.heap.push _)[w.heap.size]? = _; simp
  simp only [h0]
  simp only [World.cell?, hw]
  simp
def markV (o m q b d r c : Int) : Int := if sizeB o m q b d r c = true then 3 * o + 4 else 0
theorem boundMark (o m q b d r c : Int) (w : World) : Calls Tryz.prog 5 #[.agg #[.int .i64 o, .int .i64 m, .int .i64 q, .int .i64 b, .int .i64 d, .int .i64 r, .int .i64 c]] w fun e w' => e = .returned (.tuple #[.int .i64 (markV o m q b d r c), .int .i64 (sizeE o m q b d r c)]) ∧ Below w.heap.size w w' := by
  cases hv : sizeB o m q b d r c with
  | true =>
    obtain ⟨⟨ho1, ho2⟩, -, -, -, -, -, -⟩ := sizeB_bounds _ _ _ _ _ _ _ hv
    have hm : markV o m q b d r c = 3 * o + 4 := by simp [markV, hv]
    have he : sizeE o m q b d r c = 0 := by simp [sizeE, hv]
    have H : ∀ W, Calls Tryz.prog 11 #[.agg #[.int .i64 o, .int .i64 m, .int .i64 q, .int .i64 b, .int .i64 d, .int .i64 r, .int .i64 c]] W fun e w' => e = .returned (.int .i64 0) ∧ Below W.heap.size W w' := fun W => by
      have := boundCheck o m q b d r c W; rwa [he] at this
    rw [hm, he]
    clear hm he hv
    go_enter Tryz.func5, Tryz.ntmps5
    go_wp2_with (go_at_call 11; refine (H _).mono ?_; rintro e w1 ⟨rfl, hb⟩; obtain ⟨c0, c1, c2, c3, c4, c5, c6⟩ := cells7 hb)
    go_ret2
    exact ⟨rfl, ((Below.refl _ _).alloc (Nat.le_refl _) _).trans (hb.mono (by simp))⟩
  | false =>
    have hm : markV o m q b d r c = 0 := by simp [markV, hv]
    have he : sizeE o m q b d r c = 2 := by simp [sizeE, hv]
    have H : ∀ W, Calls Tryz.prog 11 #[.agg #[.int .i64 o, .int .i64 m, .int .i64 q, .int .i64 b, .int .i64 d, .int .i64 r, .int .i64 c]] W fun e w' => e = .returned (.int .i64 2) ∧ Below W.heap.size W w' := fun W => by
      have := boundCheck o m q b d r c W; rwa [he] at this
    rw [hm, he]
    clear hm he hv
    go_enter Tryz.func5, Tryz.ntmps5
    go_wp2_with (go_at_call 11; refine (H _).mono ?_; rintro e w1 ⟨rfl, hb⟩)
    go_ret2
    exact ⟨rfl, ((Below.refl _ _).alloc (Nat.le_refl _) _).trans (hb.mono (by simp))⟩
theorem refMark (o m q b d r c : Int) (w : World) : Calls Tryz.prog 6 #[.agg #[.int .i64 o, .int .i64 m, .int .i64 q, .int .i64 b, .int .i64 d, .int .i64 r, .int .i64 c]] w fun e w' => e = .returned (.tuple #[.int .i64 (markV o m q b d r c), .int .i64 (sizeE o m q b d r c)]) ∧ Below w.heap.size w w' := by
  cases hv : sizeB o m q b d r c with
  | true =>
    obtain ⟨⟨ho1, ho2⟩, -, -, -, -, -, -⟩ := sizeB_bounds _ _ _ _ _ _ _ hv
    have hm : markV o m q b d r c = 3 * o + 4 := by simp [markV, hv]
    have he : sizeE o m q b d r c = 0 := by simp [sizeE, hv]
    have H : ∀ W, Calls Tryz.prog 12 #[.agg #[.int .i64 o, .int .i64 m, .int .i64 q, .int .i64 b, .int .i64 d, .int .i64 r, .int .i64 c]] W fun e w' => e = .returned (.int .i64 0) ∧ Below W.heap.size W w' := fun W => by
      have := ref45Check o m q b d r c W; rwa [he] at this
    rw [hm, he]
    clear hm he hv
    go_enter Tryz.func6, Tryz.ntmps6
    go_wp2_with (go_at_call 12; refine (H _).mono ?_; rintro e w1 ⟨rfl, hb⟩; obtain ⟨c0, c1, c2, c3, c4, c5, c6⟩ := cells7 hb)
    go_ret2
    exact ⟨rfl, ((Below.refl _ _).alloc (Nat.le_refl _) _).trans (hb.mono (by simp))⟩
  | false =>
    have hm : markV o m q b d r c = 0 := by simp [markV, hv]
    have he : sizeE o m q b d r c = 2 := by simp [sizeE, hv]
    have H : ∀ W, Calls Tryz.prog 12 #[.agg #[.int .i64 o, .int .i64 m, .int .i64 q, .int .i64 b, .int .i64 d, .int .i64 r, .int .i64 c]] W fun e w' => e = .returned (.int .i64 2) ∧ Below W.heap.size W w' := fun W => by
      have := ref45Check o m q b d r c W; rwa [he] at this
    rw [hm, he]
    clear hm he hv
    go_enter Tryz.func6, Tryz.ntmps6
    go_wp2_with (go_at_call 12; refine (H _).mono ?_; rintro e w1 ⟨rfl, hb⟩)
    go_ret2
    exact ⟨rfl, ((Below.refl _ _).alloc (Nat.le_refl _) _).trans (hb.mono (by simp))⟩
end Go.Proofs
end
section
set_option linter.unusedVariables false
namespace Go.Proofs
open Go.RowKit Go.Bound
open Go.Abs (Made1 Made2 Stays)
set_option maxHeartbeats 1000000
set_option maxRecDepth 100000
def boundV (o m q b d r c : Int) : Int := if sizeB o m q b d r c = true then (2 * (4 * o + 6) + 2 + (r + 1) * (((256 + b - 1) / b) + 3)) * d else 0
theorem below_drewN (B : Nat) (w : World) (n : Nat) : Below B w (w.drewN n) := by
  induction n generalizing w with
  | zero => exact Below.refl _ _
  | succ n ih => first | exact Below.drew (ih _) | exact (Below.drew (Below.refl _ _)).trans (ih _)
theorem run_le (b : Int) (h1 : 1 ≤ b) (h2 : b ≤ 64) : 0 ≤ ((256 + b - 1) / b) ∧ ((256 + b - 1) / b) ≤ 256 := by
  refine ⟨Int.ediv_nonneg (by omega) (by omega), ?_⟩
  exact Int.ediv_le_of_le_mul (by omega) (by have : 1 * 256 ≤ b * 256 := Int.mul_le_mul_of_nonneg_right h1 (by omega); omega)
theorem bound_le (o b d r x : Int) (ho1 : 1 ≤ o) (ho2 : o ≤ 256) (hd1 : 1 ≤ d) (hd2 : d ≤ 2000) (hr1 : 0 ≤ r) (hr2 : r ≤ 2000) (hx1 : 0 ≤ x) (hx2 : x ≤ 256) :
    0 ≤ (r + 1) * (x + 3) ∧ (r + 1) * (x + 3) ≤ 518259 ∧ 0 ≤ (2 * (4 * o + 6) + 2 + (r + 1) * (x + 3)) * d ∧ (2 * (4 * o + 6) + 2 + (r + 1) * (x + 3)) * d ≤ 1040642000 := by
  have a1 : 0 ≤ (r + 1) * (x + 3) := Int.mul_nonneg (by omega) (by omega)
  have a2 : (r + 1) * (x + 3) ≤ 2001 * 259 := Int.mul_le_mul (by omega) (by omega) (by omega) (by omega)
  generalize (r + 1) * (x + 3) = y at *
  have a3 : 0 ≤ (2 * (4 * o + 6) + 2 + y) * d := Int.mul_nonneg (by omega) (by omega)
  have a4 : (2 * (4 * o + 6) + 2 + y) * d ≤ 520321 * 2000 := Int.mul_le_mul (by omega) (by omega) (by omega) (by omega)
  exact ⟨a1, by omega, a3, by omega⟩
theorem boundBound (o m q b d r c : Int) (w : World) : Calls Tryz.prog 7 #[.agg #[.int .i64 o, .int .i64 m, .int .i64 q, .int .i64 b, .int .i64 d, .int .i64 r, .int .i64 c]] w fun e w' => e = .returned (.tuple #[.int .i64 (boundV o m q b d r c), .int .i64 (sizeE o m q b d r c)]) ∧ Below w.heap.size w w' := by
  cases hv : sizeB o m q b d r c with
  | true =>
    obtain ⟨⟨ho1, ho2⟩, -, -, ⟨hb1, hb2⟩, ⟨hd1, hd2⟩, ⟨hr1, hr2⟩, -⟩ := sizeB_bounds _ _ _ _ _ _ _ hv
    have hm : boundV o m q b d r c = (2 * (4 * o + 6) + 2 + (r + 1) * (((256 + b - 1) / b) + 3)) * d := by simp [boundV, hv]
    have he : sizeE o m q b d r c = 0 := by simp [sizeE, hv]
    have H : ∀ W, Calls Tryz.prog 11 #[.agg #[.int .i64 o, .int .i64 m, .int .i64 q, .int .i64 b, .int .i64 d, .int .i64 r, .int .i64 c]] W fun e w' => e = .returned (.int .i64 0) ∧ Below W.heap.size W w' := fun W => by
      have := boundCheck o m q b d r c W; rwa [he] at this
    rw [hm, he]
    clear hm he hv
    obtain ⟨hx1, hx2⟩ := run_le b hb1 hb2
    obtain ⟨hy1, hy2, hz1, hz2⟩ := bound_le o b d r _ ho1 ho2 hd1 hd2 hr1 hr2 hx1 hx2
    go_enter Tryz.func7, Tryz.ntmps7
    go_wp2_with (go_at_call 11; refine (H _).mono ?_; rintro e w1 ⟨rfl, hb⟩; obtain ⟨c0, c1, c2, c3, c4, c5, c6⟩ := cells7 hb)
    go_quiet (fail)
    go_wp2
    go_ret2
    exact ⟨rfl, (((Below.refl _ _).alloc (Nat.le_refl _) _).trans (hb.mono (by simp))).trans (below_drewN _ _ _)⟩
  | false =>
    have hm : boundV o m q b d r c = 0 := by simp [boundV, hv]
    have he : sizeE o m q b d r c = 2 := by simp [sizeE, hv]
    have H : ∀ W, Calls Tryz.prog 11 #[.agg #[.int .i64 o, .int .i64 m, .int .i64 q, .int .i64 b, .int .i64 d, .int .i64 r, .int .i64 c]] W fun e w' => e = .returned (.int .i64 2) ∧ Below W.heap.size W w' := fun W => by
      have := boundCheck o m q b d r c W; rwa [he] at this
    rw [hm, he]
    clear hm he hv
    go_enter Tryz.func7, Tryz.ntmps7
    go_wp2_with (go_at_call 11; refine (H _).mono ?_; rintro e w1 ⟨rfl, hb⟩)
    go_ret2
    exact ⟨rfl, ((Below.refl _ _).alloc (Nat.le_refl _) _).trans (hb.mono (by simp))⟩
end Go.Proofs
end
section
set_option linter.unusedVariables false
namespace Go.Proofs
open Go.RowKit Go.Bound
open Go.Abs (Made1 Made2 Stays)
set_option maxHeartbeats 1000000
set_option maxRecDepth 100000
theorem ceil_div (b : Int) (h1 : 1 ≤ b) : (256 + b - 1) / b = if 0 < 256 % b then 256 / b + 1 else 256 / b := by
  have hq := Int.mul_ediv_add_emod 256 b
  have hr := Int.emod_nonneg 256 (show b ≠ 0 by omega)
  have hl := Int.emod_lt_of_pos 256 (show 0 < b by omega)
  generalize 256 / b = x at *
  generalize 256 % b = y at *
  split
  · rename_i h
    have : 256 + b - 1 = (y - 1) + b * (x + 1) := by rw [Int.mul_add, Int.mul_one]; omega
    rw [this, Int.add_mul_ediv_left _ _ (by omega), Int.ediv_eq_zero_of_lt (by omega) (by omega)]; omega
  · have : 256 + b - 1 = (y + b - 1) + b * x := by omega
    rw [this, Int.add_mul_ediv_left _ _ (by omega), Int.ediv_eq_zero_of_lt (by omega) (by omega)]; omega
theorem refBound (o m q b d r c : Int) (w : World) : Calls Tryz.prog 8 #[.agg #[.int .i64 o, .int .i64 m, .int .i64 q, .int .i64 b, .int .i64 d, .int .i64 r, .int .i64 c]] w fun e w' => e = .returned (.tuple #[.int .i64 (boundV o m q b d r c), .int .i64 (sizeE o m q b d r c)]) ∧ Below w.heap.size w w' := by
  cases hv : sizeB o m q b d r c with
  | true =>
    obtain ⟨⟨ho1, ho2⟩, -, -, ⟨hb1, hb2⟩, ⟨hd1, hd2⟩, ⟨hr1, hr2⟩, -⟩ := sizeB_bounds _ _ _ _ _ _ _ hv
    have hm : boundV o m q b d r c = (2 * (4 * o + 6) + 2 + (r + 1) * ((256 + b - 1) / b + 3)) * d := by simp [boundV, hv]
    have he : sizeE o m q b d r c = 0 := by simp [sizeE, hv]
    have H : ∀ W, Calls Tryz.prog 12 #[.agg #[.int .i64 o, .int .i64 m, .int .i64 q, .int .i64 b, .int .i64 d, .int .i64 r, .int .i64 c]] W fun e w' => e = .returned (.int .i64 0) ∧ Below W.heap.size W w' := fun W => by
      have := ref45Check o m q b d r c W; rwa [he] at this
    rw [hm, he]
    clear hm he hv
    obtain ⟨hx1, hx2⟩ := run_le b hb1 hb2
    rw [ceil_div b hb1] at *
    by_cases hk : 0 < 256 % b
    · rw [if_pos hk] at *
      have hq1 : 0 ≤ 256 / b := Int.ediv_nonneg (by omega) (by omega)
      have Y := bound_le o b d r _ ho1 ho2 hd1 hd2 hr1 hr2 hx1 hx2
      have hse : 256 / b + 1 + 3 = 256 / b + 3 + 1 := by omega
      rw [hse] at Y ⊢
      clear hse
      obtain ⟨hy1, hy2, hz1, hz2⟩ := Y
      go_enter Tryz.func8, Tryz.ntmps8
      go_wp2_with (go_at_call 12; refine (H _).mono ?_; rintro e w1 ⟨rfl, hb⟩; obtain ⟨c0, c1, c2, c3, c4, c5, c6⟩ := cells7 hb)
      go_ret2
      exact ⟨rfl, ((Below.refl _ _).alloc (Nat.le_refl _) _).trans (hb.mono (by simp))⟩
    · rw [if_neg hk] at *
      obtain ⟨hy1, hy2, hz1, hz2⟩ := bound_le o b d r _ ho1 ho2 hd1 hd2 hr1 hr2 hx1 hx2
      go_enter Tryz.func8, Tryz.ntmps8
      go_wp2_with (go_at_call 12; refine (H _).mono ?_; rintro e w1 ⟨rfl, hb⟩; obtain ⟨c0, c1, c2, c3, c4, c5, c6⟩ := cells7 hb)
      go_ret2
      exact ⟨rfl, ((Below.refl _ _).alloc (Nat.le_refl _) _).trans (hb.mono (by simp))⟩
  | false =>
    have hm : boundV o m q b d r c = 0 := by simp [boundV, hv]
    have he : sizeE o m q b d r c = 2 := by simp [sizeE, hv]
    have H : ∀ W, Calls Tryz.prog 12 #[.agg #[.int .i64 o, .int .i64 m, .int .i64 q, .int .i64 b, .int .i64 d, .int .i64 r, .int .i64 c]] W fun e w' => e = .returned (.int .i64 2) ∧ Below W.heap.size W w' := fun W => by
      have := ref45Check o m q b d r c W; rwa [he] at this
    rw [hm, he]
    clear hm he hv
    go_enter Tryz.func8, Tryz.ntmps8
    go_wp2_with (go_at_call 12; refine (H _).mono ?_; rintro e w1 ⟨rfl, hb⟩)
    go_ret2
    exact ⟨rfl, ((Below.refl _ _).alloc (Nat.le_refl _) _).trans (hb.mono (by simp))⟩
end Go.Proofs
end
