/- Proved here: Of, the program's and the document's, for every configuration. By an AI agent. -/
import Derived.Test.YtmheiipmancjpaaGreatDoorCaI
set_option linter.unusedVariables false
set_option linter.unusedSimpArgs false
section
set_option linter.unusedVariables false
namespace Go.Proofs
open Go.RowKit Go.Bound
open Go.Abs (Made1 Made2 Stays)
set_option maxHeartbeats 1000000
set_option maxRecDepth 100000
theorem blk7 {W : World} {b T : Nat} {v0 v1 v2 v3 v4 v5 v6 : Value} (h : W.heap[b]? = some (.cells #[v0, v1, v2, v3, v4, v5, v6] T (0, 0))) : (W.cell? ⟨b, 0, none⟩ = some v0 ∧ W.cell? ⟨b, 1, none⟩ = some v1 ∧ W.cell? ⟨b, 2, none⟩ = some v2 ∧ W.cell? ⟨b, 3, none⟩ = some v3 ∧ W.cell? ⟨b, 4, none⟩ = some v4 ∧ W.cell? ⟨b, 5, none⟩ = some v5 ∧ W.cell? ⟨b, 6, none⟩ = some v6) ∧ ∀ o, W.frozen? ⟨b, o, none⟩ = false := by
  refine ⟨?_, fun o => by simp [World.frozen?, h]⟩
  simp only [World.cell?, h]
  simp
theorem top_block (w : World) (x : Array Value) (T : Nat) : (w.alloc (.cells x T)).heap[w.heap.size]? = some (.cells x T (0, 0)) := by show (w.heap.push _)[w.heap.size]? = _; simp
theorem stays_alloc (w : World) (x : Array Value) (T : Nat) : Stays w (w.alloc (.cells x T)) := ⟨by simp, fun B hB => Below.heap_alloc _ _ _ hB, rfl, rfl⟩
theorem top1 (w : World) (x y : Array Value) (T S : Nat) : ((w.alloc (.cells x T)).alloc (.cells y S)).heap[w.heap.size + 1]? = some (.cells y S (0, 0)) := by
  have h := top_block (w.alloc (.cells x T)) y S
  rwa [show (w.alloc (.cells x T)).heap.size = w.heap.size + 1 from by simp] at h
theorem top2 (w : World) (x y z : Array Value) (T S R : Nat) : (((w.alloc (.cells x T)).alloc (.cells y S)).alloc (.cells z R)).heap[w.heap.size + 1 + 1]? = some (.cells z R (0, 0)) := by
  have h := top1 (w.alloc (.cells x T)) y z S R
  rwa [show (w.alloc (.cells x T)).heap.size = w.heap.size + 1 from by simp] at h
theorem set1 {W : World} {b T : Nat} {arr : Array Value} (h : W.heap[b]? = some (.cells arr T (0, 0))) (o : Nat) (v : Value) : (W.setCell ⟨b, o, none⟩ v).heap[b]? = some (.cells (arr.setIfInBounds o v) T (0, 0)) := by
  have hlt := lt_of_block h
  have h' : W.heap[b] = .cells arr T (0, 0) := by simpa [Array.getElem?_eq_getElem hlt] using h
  show (W.heap.modify b _)[b]? = _
  rw [Array.getElem?_eq_getElem (by simpa using hlt), Array.getElem_modify_self, h']
  rfl
theorem set7 {W : World} {b T : Nat} {u0 u1 u2 u3 u4 u5 u6 : Value} (h : W.heap[b]? = some (.cells #[u0, u1, u2, u3, u4, u5, u6] T (0, 0))) (v0 v1 v2 v3 v4 v5 v6 : Value) :
    (((((((W.setCell ⟨b, 0, none⟩ v0).setCell ⟨b, 1, none⟩ v1).setCell ⟨b, 2, none⟩ v2).setCell ⟨b, 3, none⟩ v3).setCell ⟨b, 4, none⟩ v4).setCell ⟨b, 5, none⟩ v5).setCell ⟨b, 6, none⟩ v6).heap[b]? = some (.cells #[v0, v1, v2, v3, v4, v5, v6] T (0, 0)) :=
  set1 (set1 (set1 (set1 (set1 (set1 (set1 h 0 v0) 1 v1) 2 v2) 3 v3) 4 v4) 5 v5) 6 v6
theorem stays_set {w W : World} {b : Nat} (h : Stays w W) (hb : w.heap.size ≤ b) (o : Nat) (v : Value) : Stays w (W.setCell ⟨b, o, none⟩ v) := by
  refine ⟨by simp; exact h.1, fun B hB => ?_, h.3, h.4⟩
  rw [Below.heap_setCell _ _ _ _ (by show B ≠ b; omega)]
  exact h.2 B hB
theorem stays7 {w W : World} {b : Nat} (h : Stays w W) (hb : w.heap.size ≤ b) (v0 v1 v2 v3 v4 v5 v6 : Value) :
    Stays w (((((((W.setCell ⟨b, 0, none⟩ v0).setCell ⟨b, 1, none⟩ v1).setCell ⟨b, 2, none⟩ v2).setCell ⟨b, 3, none⟩ v3).setCell ⟨b, 4, none⟩ v4).setCell ⟨b, 5, none⟩ v5).setCell ⟨b, 6, none⟩ v6) :=
  stays_set (stays_set (stays_set (stays_set (stays_set (stays_set (stays_set h hb 0 v0) hb 1 v1) hb 2 v2) hb 3 v3) hb 4 v4) hb 5 v5) hb 6 v6
theorem boundOf_yes (o m s b q qt ba bs cp f d r : Int) (w : World) (hf : f ≤ 4294967295) (h1 : cfgE o m s b q qt ba bs cp f = 0) (h2 : sizeE o m q ba d r cp = 0) : Calls Tryz.prog 9 #[.agg #[.int .i64 o, .int .i64 m, .int .i64 s, .int .i64 b, .int .i64 q, .int .i64 qt, .int .i64 ba, .int .i64 bs, .int .i64 cp, .int .u32 f], .int .i64 d, .int .i64 r] w fun e w' => e = .returned (.tuple #[.agg #[.int .i64 o, .int .i64 m, .int .i64 q, .int .i64 ba, .int .i64 d, .int .i64 r, .int .i64 cp], .int .i64 0]) ∧ Stays w w' := by
  have H1 : ∀ W, Calls Tryz.prog 17 #[.agg #[.int .i64 o, .int .i64 m, .int .i64 s, .int .i64 b, .int .i64 q, .int .i64 qt, .int .i64 ba, .int .i64 bs, .int .i64 cp, .int .u32 f]] W fun e w' => e = .returned (.int .i64 0) ∧ Stays W w' := fun W => by
    have := machineCheck o m s b q qt ba bs cp f W hf; rwa [h1] at this
  have H2 : ∀ W, Calls Tryz.prog 11 #[.agg #[.int .i64 o, .int .i64 m, .int .i64 q, .int .i64 ba, .int .i64 d, .int .i64 r, .int .i64 cp]] W fun e w' => e = .returned (.int .i64 0) ∧ Below W.heap.size W w' := fun W => by
    have := boundCheck o m q ba d r cp W; rwa [h2] at this
  clear h1 h2
  have H1 : Hid _ := H1
  have H2 : Hid _ := H2
  go_enter Tryz.func9, Tryz.ntmps9
  go_wp2_with (first
    | (go_at_call 17; refine (H1.out _).mono ?_; rintro e w1 ⟨rfl, hb⟩
       have g2 : w1.heap[w.heap.size + 1 + 1]? = some (.cells #[.int .i64 o, .int .i64 m, .int .i64 q, .int .i64 ba, .int .i64 d, .int .i64 r, .int .i64 cp] 23 (0, 0)) := stay_block (top2 _ _ _ _ _ _ _) hb
       have g1 : w1.heap[w.heap.size + 1]? = some (.cells #[.int .i64 0, .int .i64 0, .int .i64 0, .int .i64 0, .int .i64 0, .int .i64 0, .int .i64 0] 23 (0, 0)) := stay_block (stay_block (top1 _ _ _ _ _) (stays_alloc _ _ _)) hb
       obtain ⟨⟨c0, c1, c2, c3, c4, c5, c6⟩, -⟩ := blk7 g2
       have g1 : Hid _ := g1
       have g2 : Hid _ := g2)
    | (go_at_call 11; refine (H2.out _).mono ?_; rintro e w2 ⟨rfl, hb2⟩
       have g3 := stay_block g1.out (Stays.of_below hb2)
       have g4 := stay_block g2.out (Stays.of_below hb2)
       obtain ⟨⟨d0, d1, d2, d3, d4, d5, d6⟩, -⟩ := blk7 g4
       obtain ⟨⟨e0, e1, e2, e3, e4, e5, e6⟩, e7⟩ := blk7 g3
       have g3 : Hid _ := g3
       clear g4))
  have hw2 := blk7 (set7 g3.out (.int .i64 o) (.int .i64 m) (.int .i64 q) (.int .i64 ba) (.int .i64 d) (.int .i64 r) (.int .i64 cp))
  obtain ⟨⟨p0, p1, p2, p3, p4, p5, p6⟩, -⟩ := hw2
  have hS : Stays w w2 := Stays.trans (Stays.trans (Stays.trans (Stays.trans (stays_alloc _ _ _) (stays_alloc _ _ _)) (stays_alloc _ _ _)) hb) (Stays.of_below hb2)
  refine bodyPost_ret (v := .tuple #[.agg #[.int .i64 o, .int .i64 m, .int .i64 q, .int .i64 ba, .int .i64 d, .int .i64 r, .int .i64 cp], .int .i64 0]) ?_ rfl ⟨rfl, stays7 hS (by omega) _ _ _ _ _ _ _⟩
  simp only [results, Tryz.results9, go_sem, p0, p1, p2, p3, p4, p5, p6]
  simp [go_sem, p0, p1, p2, p3, p4, p5, p6]
end Go.Proofs
end
section
set_option linter.unusedVariables false
set_option linter.unusedSimpArgs false
namespace Go.Proofs
open Go.RowKit Go.Bound
open Go.Abs (Made1 Made2 Stays)
set_option maxHeartbeats 1000000
set_option maxRecDepth 100000
theorem boundOf_no1 (o m s b q qt ba bs cp f d r : Int) (w : World) (hf : f ≤ 4294967295) (h1 : cfgE o m s b q qt ba bs cp f = 2) : Calls Tryz.prog 9 #[.agg #[.int .i64 o, .int .i64 m, .int .i64 s, .int .i64 b, .int .i64 q, .int .i64 qt, .int .i64 ba, .int .i64 bs, .int .i64 cp, .int .u32 f], .int .i64 d, .int .i64 r] w fun e w' => e = .returned (.tuple #[.agg #[.int .i64 0, .int .i64 0, .int .i64 0, .int .i64 0, .int .i64 0, .int .i64 0, .int .i64 0], .int .i64 2]) ∧ Stays w w' := by
  have H1 : ∀ W, Calls Tryz.prog 17 #[.agg #[.int .i64 o, .int .i64 m, .int .i64 s, .int .i64 b, .int .i64 q, .int .i64 qt, .int .i64 ba, .int .i64 bs, .int .i64 cp, .int .u32 f]] W fun e w' => e = .returned (.int .i64 2) ∧ Stays W w' := fun W => by
    have := machineCheck o m s b q qt ba bs cp f W hf; rwa [h1] at this
  have H1 : Hid _ := H1
  clear h1
  go_enter Tryz.func9, Tryz.ntmps9
  go_wp2_with (first
    | (go_at_call 17; refine (H1.out _).mono ?_; rintro e w1 ⟨rfl, hb⟩
       have g1 : w1.heap[w.heap.size + 1]? = some (.cells #[.int .i64 0, .int .i64 0, .int .i64 0, .int .i64 0, .int .i64 0, .int .i64 0, .int .i64 0] 23 (0, 0)) := stay_block (stay_block (top1 _ _ _ _ _) (stays_alloc _ _ _)) hb
       obtain ⟨⟨c0, c1, c2, c3, c4, c5, c6⟩, c7⟩ := blk7 g1
       have g1 : Hid _ := g1))
  have hS : Stays w w1 := Stays.trans (Stays.trans (Stays.trans (stays_alloc _ _ _) (stays_alloc _ _ _)) (stays_alloc _ _ _)) hb
  obtain ⟨⟨p0, p1, p2, p3, p4, p5, p6⟩, -⟩ := blk7 (set7 g1.out (.int .i64 0) (.int .i64 0) (.int .i64 0) (.int .i64 0) (.int .i64 0) (.int .i64 0) (.int .i64 0) )
  refine bodyPost_ret (v := .tuple #[.agg #[.int .i64 0, .int .i64 0, .int .i64 0, .int .i64 0, .int .i64 0, .int .i64 0, .int .i64 0], .int .i64 2]) ?_ rfl ⟨rfl, stays7 hS (by omega) _ _ _ _ _ _ _⟩
  simp only [results, Tryz.results9, go_sem, p0, p1, p2, p3, p4, p5, p6]
  simp [go_sem, p0, p1, p2, p3, p4, p5, p6]
theorem boundOf_no2 (o m s b q qt ba bs cp f d r : Int) (w : World) (hf : f ≤ 4294967295) (h1 : cfgE o m s b q qt ba bs cp f = 0) (h2 : sizeE o m q ba d r cp = 2) : Calls Tryz.prog 9 #[.agg #[.int .i64 o, .int .i64 m, .int .i64 s, .int .i64 b, .int .i64 q, .int .i64 qt, .int .i64 ba, .int .i64 bs, .int .i64 cp, .int .u32 f], .int .i64 d, .int .i64 r] w fun e w' => e = .returned (.tuple #[.agg #[.int .i64 0, .int .i64 0, .int .i64 0, .int .i64 0, .int .i64 0, .int .i64 0, .int .i64 0], .int .i64 2]) ∧ Stays w w' := by
  have H1 : ∀ W, Calls Tryz.prog 17 #[.agg #[.int .i64 o, .int .i64 m, .int .i64 s, .int .i64 b, .int .i64 q, .int .i64 qt, .int .i64 ba, .int .i64 bs, .int .i64 cp, .int .u32 f]] W fun e w' => e = .returned (.int .i64 0) ∧ Stays W w' := fun W => by
    have := machineCheck o m s b q qt ba bs cp f W hf; rwa [h1] at this
  have H2 : ∀ W, Calls Tryz.prog 11 #[.agg #[.int .i64 o, .int .i64 m, .int .i64 q, .int .i64 ba, .int .i64 d, .int .i64 r, .int .i64 cp]] W fun e w' => e = .returned (.int .i64 2) ∧ Below W.heap.size W w' := fun W => by
    have := boundCheck o m q ba d r cp W; rwa [h2] at this
  have H2 : Hid _ := H2
  have H1 : Hid _ := H1
  clear h1 h2
  go_enter Tryz.func9, Tryz.ntmps9
  go_wp2_with (first
    | (go_at_call 17; refine (H1.out _).mono ?_; rintro e w1 ⟨rfl, hb⟩
       have g2 : w1.heap[w.heap.size + 1 + 1]? = some (.cells #[.int .i64 o, .int .i64 m, .int .i64 q, .int .i64 ba, .int .i64 d, .int .i64 r, .int .i64 cp] 23 (0, 0)) := stay_block (top2 _ _ _ _ _ _ _) hb
       have g1 : w1.heap[w.heap.size + 1]? = some (.cells #[.int .i64 0, .int .i64 0, .int .i64 0, .int .i64 0, .int .i64 0, .int .i64 0, .int .i64 0] 23 (0, 0)) := stay_block (stay_block (top1 _ _ _ _ _) (stays_alloc _ _ _)) hb
       obtain ⟨⟨c0, c1, c2, c3, c4, c5, c6⟩, -⟩ := blk7 g2
       have g1 : Hid _ := g1
       have g2 : Hid _ := g2)
    | (go_at_call 11; refine (H2.out _).mono ?_; rintro e w2 ⟨rfl, hb2⟩
       have g3 := stay_block g1.out (Stays.of_below hb2)
       obtain ⟨⟨e0, e1, e2, e3, e4, e5, e6⟩, e7⟩ := blk7 g3
       have g3 : Hid _ := g3))
  have hS : Stays w w2 := Stays.trans (Stays.trans (Stays.trans (Stays.trans (stays_alloc _ _ _) (stays_alloc _ _ _)) (stays_alloc _ _ _)) hb) (Stays.of_below hb2)
  obtain ⟨⟨p0, p1, p2, p3, p4, p5, p6⟩, -⟩ := blk7 (set7 g3.out (.int .i64 0) (.int .i64 0) (.int .i64 0) (.int .i64 0) (.int .i64 0) (.int .i64 0) (.int .i64 0) )
  refine bodyPost_ret (v := .tuple #[.agg #[.int .i64 0, .int .i64 0, .int .i64 0, .int .i64 0, .int .i64 0, .int .i64 0, .int .i64 0], .int .i64 2]) ?_ rfl ⟨rfl, stays7 hS (by omega) _ _ _ _ _ _ _⟩
  simp only [results, Tryz.results9, go_sem, p0, p1, p2, p3, p4, p5, p6]
  simp [go_sem, p0, p1, p2, p3, p4, p5, p6]
theorem refOf_no1 (o m s b q qt ba bs cp f d r : Int) (w : World) (hf : f ≤ 4294967295) (h1 : cfgE o m s b q qt ba bs cp f = 2) : Calls Tryz.prog 10 #[.agg #[.int .i64 o, .int .i64 m, .int .i64 s, .int .i64 b, .int .i64 q, .int .i64 qt, .int .i64 ba, .int .i64 bs, .int .i64 cp, .int .u32 f], .int .i64 d, .int .i64 r] w fun e w' => e = .returned (.tuple #[.agg #[.int .i64 0, .int .i64 0, .int .i64 0, .int .i64 0, .int .i64 0, .int .i64 0, .int .i64 0], .int .i64 2]) ∧ Stays w w' := by
  have H1 : ∀ W, Calls Tryz.prog 18 #[.agg #[.int .i64 o, .int .i64 m, .int .i64 s, .int .i64 b, .int .i64 q, .int .i64 qt, .int .i64 ba, .int .i64 bs, .int .i64 cp, .int .u32 f]] W fun e w' => e = .returned (.int .i64 2) ∧ Stays W w' := fun W => by
    have := ref40Check o m s b q qt ba bs cp f W hf; rwa [h1] at this
  have H1 : Hid _ := H1
  clear h1
  go_enter Tryz.func10, Tryz.ntmps10
  go_wp2_with (first
    | (go_at_call 18; refine (H1.out _).mono ?_; rintro e w1 ⟨rfl, hb⟩
       have g1 : w1.heap[w.heap.size + 1]? = some (.cells #[.int .i64 0, .int .i64 0, .int .i64 0, .int .i64 0, .int .i64 0, .int .i64 0, .int .i64 0] 27 (0, 0)) := stay_block (top1 _ _ _ _ _) hb
       obtain ⟨⟨c0, c1, c2, c3, c4, c5, c6⟩, c7⟩ := blk7 g1
       have g1 : Hid _ := g1))
  have hS : Stays w w1 := Stays.trans (Stays.trans (stays_alloc _ _ _) (stays_alloc _ _ _)) hb
  obtain ⟨⟨p0, p1, p2, p3, p4, p5, p6⟩, -⟩ := blk7 (set7 g1.out (.int .i64 0) (.int .i64 0) (.int .i64 0) (.int .i64 0) (.int .i64 0) (.int .i64 0) (.int .i64 0) )
  refine bodyPost_ret (v := .tuple #[.agg #[.int .i64 0, .int .i64 0, .int .i64 0, .int .i64 0, .int .i64 0, .int .i64 0, .int .i64 0], .int .i64 2]) ?_ rfl ⟨rfl, stays7 hS (by omega) _ _ _ _ _ _ _⟩
  simp only [results, Tryz.results10, go_sem, p0, p1, p2, p3, p4, p5, p6]
  simp [go_sem, p0, p1, p2, p3, p4, p5, p6]
theorem blk10 {W : World} {b T : Nat} {v0 v1 v2 v3 v4 v5 v6 v7 v8 v9 : Value} (h : W.heap[b]? = some (.cells #[v0, v1, v2, v3, v4, v5, v6, v7, v8, v9] T (0, 0))) : W.cell? ⟨b, 0, none⟩ = some v0 ∧ W.cell? ⟨b, 1, none⟩ = some v1 ∧ W.cell? ⟨b, 2, none⟩ = some v2 ∧ W.cell? ⟨b, 3, none⟩ = some v3 ∧ W.cell? ⟨b, 4, none⟩ = some v4 ∧ W.cell? ⟨b, 5, none⟩ = some v5 ∧ W.cell? ⟨b, 6, none⟩ = some v6 ∧ W.cell? ⟨b, 7, none⟩ = some v7 ∧ W.cell? ⟨b, 8, none⟩ = some v8 ∧ W.cell? ⟨b, 9, none⟩ = some v9 := by
  simp only [World.cell?, h]
  simp
theorem refOf_no2 (o m s b q qt ba bs cp f d r : Int) (w : World) (hf : f ≤ 4294967295) (h1 : cfgE o m s b q qt ba bs cp f = 0) (h2 : sizeE o m q ba d r cp = 2) : Calls Tryz.prog 10 #[.agg #[.int .i64 o, .int .i64 m, .int .i64 s, .int .i64 b, .int .i64 q, .int .i64 qt, .int .i64 ba, .int .i64 bs, .int .i64 cp, .int .u32 f], .int .i64 d, .int .i64 r] w fun e w' => e = .returned (.tuple #[.agg #[.int .i64 0, .int .i64 0, .int .i64 0, .int .i64 0, .int .i64 0, .int .i64 0, .int .i64 0], .int .i64 2]) ∧ Stays w w' := by
  have H1 : ∀ W, Calls Tryz.prog 18 #[.agg #[.int .i64 o, .int .i64 m, .int .i64 s, .int .i64 b, .int .i64 q, .int .i64 qt, .int .i64 ba, .int .i64 bs, .int .i64 cp, .int .u32 f]] W fun e w' => e = .returned (.int .i64 0) ∧ Stays W w' := fun W => by
    have := ref40Check o m s b q qt ba bs cp f W hf; rwa [h1] at this
  have H2 : ∀ W, Calls Tryz.prog 12 #[.agg #[.int .i64 o, .int .i64 m, .int .i64 q, .int .i64 ba, .int .i64 d, .int .i64 r, .int .i64 cp]] W fun e w' => e = .returned (.int .i64 2) ∧ Below W.heap.size W w' := fun W => by
    have := ref45Check o m q ba d r cp W; rwa [h2] at this
  have H2 : Hid _ := H2
  have H1 : Hid _ := H1
  clear h1 h2
  go_enter Tryz.func10, Tryz.ntmps10
  go_wp2_with (first
    | (go_at_call 18; refine (H1.out _).mono ?_; rintro e w1 ⟨rfl, hb⟩
       have g1 : w1.heap[w.heap.size + 1]? = some (.cells #[.int .i64 0, .int .i64 0, .int .i64 0, .int .i64 0, .int .i64 0, .int .i64 0, .int .i64 0] 27 (0, 0)) := stay_block (top1 _ _ _ _ _) hb
       have g2 : w1.heap[w.heap.size]? = some (.cells #[.int .i64 o, .int .i64 m, .int .i64 s, .int .i64 b, .int .i64 q, .int .i64 qt, .int .i64 ba, .int .i64 bs, .int .i64 cp, .int .u32 f] 26 (0, 0)) := stay_block (stay_block (top_block _ _ _) (stays_alloc _ _ _)) hb
       obtain ⟨c0, c1, c2, c3, c4, c5, c6, c7, c8, c9⟩ := blk10 g2
       have hlt : w.heap.size + 1 < w1.heap.size := lt_of_block g1
       have g1 : Hid _ := g1
       clear g2)
    | (go_at_call 12; refine (H2.out _).mono ?_; rintro e w2 ⟨rfl, hb2⟩
       have g3 := stay_block (stay_block g1.out (stays_alloc _ _ _)) (Stays.of_below hb2)
       have g4 := stay_block (top_block _ _ _) (Stays.of_below hb2)
       obtain ⟨⟨d0, d1, d2, d3, d4, d5, d6⟩, -⟩ := blk7 g4
       obtain ⟨⟨e0, e1, e2, e3, e4, e5, e6⟩, e7⟩ := blk7 g3
       have g3 : Hid _ := g3
       clear g4))
  have hS : Stays w w2 := Stays.trans (Stays.trans (Stays.trans (Stays.trans (stays_alloc _ _ _) (stays_alloc _ _ _)) hb) (stays_alloc _ _ _)) (Stays.of_below hb2)
  obtain ⟨⟨p0, p1, p2, p3, p4, p5, p6⟩, -⟩ := blk7 (set7 g3.out (.int .i64 0) (.int .i64 0) (.int .i64 0) (.int .i64 0) (.int .i64 0) (.int .i64 0) (.int .i64 0) )
  refine bodyPost_ret (v := .tuple #[.agg #[.int .i64 0, .int .i64 0, .int .i64 0, .int .i64 0, .int .i64 0, .int .i64 0, .int .i64 0], .int .i64 2]) ?_ rfl ⟨rfl, stays7 hS (by omega) _ _ _ _ _ _ _⟩
  simp only [results, Tryz.results10, go_sem, p0, p1, p2, p3, p4, p5, p6]
  simp [go_sem, p0, p1, p2, p3, p4, p5, p6]
theorem refOf_yes (o m s b q qt ba bs cp f d r : Int) (w : World) (hf : f ≤ 4294967295) (h1 : cfgE o m s b q qt ba bs cp f = 0) (h2 : sizeE o m q ba d r cp = 0) : Calls Tryz.prog 10 #[.agg #[.int .i64 o, .int .i64 m, .int .i64 s, .int .i64 b, .int .i64 q, .int .i64 qt, .int .i64 ba, .int .i64 bs, .int .i64 cp, .int .u32 f], .int .i64 d, .int .i64 r] w fun e w' => e = .returned (.tuple #[.agg #[.int .i64 o, .int .i64 m, .int .i64 q, .int .i64 ba, .int .i64 d, .int .i64 r, .int .i64 cp], .int .i64 0]) ∧ Stays w w' := by
  have H1 : ∀ W, Calls Tryz.prog 18 #[.agg #[.int .i64 o, .int .i64 m, .int .i64 s, .int .i64 b, .int .i64 q, .int .i64 qt, .int .i64 ba, .int .i64 bs, .int .i64 cp, .int .u32 f]] W fun e w' => e = .returned (.int .i64 0) ∧ Stays W w' := fun W => by
    have := ref40Check o m s b q qt ba bs cp f W hf; rwa [h1] at this
  have H2 : ∀ W, Calls Tryz.prog 12 #[.agg #[.int .i64 o, .int .i64 m, .int .i64 q, .int .i64 ba, .int .i64 d, .int .i64 r, .int .i64 cp]] W fun e w' => e = .returned (.int .i64 0) ∧ Below W.heap.size W w' := fun W => by
    have := ref45Check o m q ba d r cp W; rwa [h2] at this
  have H2 : Hid _ := H2
  have H1 : Hid _ := H1
  clear h1 h2
  go_enter Tryz.func10, Tryz.ntmps10
  go_wp2_with (first
    | (go_at_call 18; refine (H1.out _).mono ?_; rintro e w1 ⟨rfl, hb⟩
       have g1 : w1.heap[w.heap.size + 1]? = some (.cells #[.int .i64 0, .int .i64 0, .int .i64 0, .int .i64 0, .int .i64 0, .int .i64 0, .int .i64 0] 27 (0, 0)) := stay_block (top1 _ _ _ _ _) hb
       have g2 : w1.heap[w.heap.size]? = some (.cells #[.int .i64 o, .int .i64 m, .int .i64 s, .int .i64 b, .int .i64 q, .int .i64 qt, .int .i64 ba, .int .i64 bs, .int .i64 cp, .int .u32 f] 26 (0, 0)) := stay_block (stay_block (top_block _ _ _) (stays_alloc _ _ _)) hb
       obtain ⟨c0, c1, c2, c3, c4, c5, c6, c7, c8, c9⟩ := blk10 g2
       have hlt : w.heap.size + 1 < w1.heap.size := lt_of_block g1
       have g1 : Hid _ := g1
       clear g2)
    | (go_at_call 12; refine (H2.out _).mono ?_; rintro e w2 ⟨rfl, hb2⟩
       have g3 := stay_block (stay_block g1.out (stays_alloc _ _ _)) (Stays.of_below hb2)
       have g4 := stay_block (top_block _ _ _) (Stays.of_below hb2)
       obtain ⟨⟨d0, d1, d2, d3, d4, d5, d6⟩, -⟩ := blk7 g4
       obtain ⟨⟨e0, e1, e2, e3, e4, e5, e6⟩, e7⟩ := blk7 g3
       have g3 : Hid _ := g3
       clear g4))
  have hS : Stays w w2 := Stays.trans (Stays.trans (Stays.trans (Stays.trans (stays_alloc _ _ _) (stays_alloc _ _ _)) hb) (stays_alloc _ _ _)) (Stays.of_below hb2)
  obtain ⟨⟨p0, p1, p2, p3, p4, p5, p6⟩, -⟩ := blk7 (set7 g3.out (.int .i64 o) (.int .i64 m) (.int .i64 q) (.int .i64 ba) (.int .i64 d) (.int .i64 r) (.int .i64 cp))
  refine bodyPost_ret (v := .tuple #[.agg #[.int .i64 o, .int .i64 m, .int .i64 q, .int .i64 ba, .int .i64 d, .int .i64 r, .int .i64 cp], .int .i64 0]) ?_ rfl ⟨rfl, stays7 hS (by omega) _ _ _ _ _ _ _⟩
  simp only [results, Tryz.results10, go_sem, p0, p1, p2, p3, p4, p5, p6]
  simp [go_sem, p0, p1, p2, p3, p4, p5, p6]
/-- What Of answers. -/
def ofE (o m s b q qt ba bs cp f d r : Int) : Int := if cfgE o m s b q qt ba bs cp f = 0 ∧ sizeE o m q ba d r cp = 0 then 0 else 2
def ofV (o m s b q qt ba bs cp f d r v : Int) : Int := if cfgE o m s b q qt ba bs cp f = 0 ∧ sizeE o m q ba d r cp = 0 then v else 0
theorem cfgE_two (o m s b q qt ba bs cp f : Int) (h : cfgE o m s b q qt ba bs cp f ≠ 0) : cfgE o m s b q qt ba bs cp f = 2 := by
  unfold cfgE at *; split at h <;> simp_all
theorem sizeE_two (o m q b d r c : Int) (h : sizeE o m q b d r c ≠ 0) : sizeE o m q b d r c = 2 := by
  unfold sizeE at *; split at h <;> simp_all
theorem boundOf (o m s b q qt ba bs cp f d r : Int) (w : World) (hf : f ≤ 4294967295) : Calls Tryz.prog 9 #[.agg #[.int .i64 o, .int .i64 m, .int .i64 s, .int .i64 b, .int .i64 q, .int .i64 qt, .int .i64 ba, .int .i64 bs, .int .i64 cp, .int .u32 f], .int .i64 d, .int .i64 r] w fun e w' => e = .returned (.tuple #[.agg #[.int .i64 (ofV o m s b q qt ba bs cp f d r o), .int .i64 (ofV o m s b q qt ba bs cp f d r m), .int .i64 (ofV o m s b q qt ba bs cp f d r q), .int .i64 (ofV o m s b q qt ba bs cp f d r ba), .int .i64 (ofV o m s b q qt ba bs cp f d r d), .int .i64 (ofV o m s b q qt ba bs cp f d r r), .int .i64 (ofV o m s b q qt ba bs cp f d r cp)], .int .i64 (ofE o m s b q qt ba bs cp f d r)]) ∧ Stays w w' := by
  by_cases h1 : cfgE o m s b q qt ba bs cp f = 0
  · by_cases h2 : sizeE o m q ba d r cp = 0
    · have h := boundOf_yes o m s b q qt ba bs cp f d r w hf h1 h2
      simpa only [ofV, ofE, h1, h2, and_self, if_true] using h
    · have h := boundOf_no2 o m s b q qt ba bs cp f d r w hf h1 (sizeE_two _ _ _ _ _ _ _ h2)
      simpa only [ofV, ofE, h1, h2, and_false, if_false] using h
  · have h := boundOf_no1 o m s b q qt ba bs cp f d r w hf (cfgE_two _ _ _ _ _ _ _ _ _ _ h1)
    simpa only [ofV, ofE, h1, false_and, if_false] using h
theorem refOf (o m s b q qt ba bs cp f d r : Int) (w : World) (hf : f ≤ 4294967295) : Calls Tryz.prog 10 #[.agg #[.int .i64 o, .int .i64 m, .int .i64 s, .int .i64 b, .int .i64 q, .int .i64 qt, .int .i64 ba, .int .i64 bs, .int .i64 cp, .int .u32 f], .int .i64 d, .int .i64 r] w fun e w' => e = .returned (.tuple #[.agg #[.int .i64 (ofV o m s b q qt ba bs cp f d r o), .int .i64 (ofV o m s b q qt ba bs cp f d r m), .int .i64 (ofV o m s b q qt ba bs cp f d r q), .int .i64 (ofV o m s b q qt ba bs cp f d r ba), .int .i64 (ofV o m s b q qt ba bs cp f d r d), .int .i64 (ofV o m s b q qt ba bs cp f d r r), .int .i64 (ofV o m s b q qt ba bs cp f d r cp)], .int .i64 (ofE o m s b q qt ba bs cp f d r)]) ∧ Stays w w' := by
  by_cases h1 : cfgE o m s b q qt ba bs cp f = 0
  · by_cases h2 : sizeE o m q ba d r cp = 0
    · have h := refOf_yes o m s b q qt ba bs cp f d r w hf h1 h2
      simpa only [ofV, ofE, h1, h2, and_self, if_true] using h
    · have h := refOf_no2 o m s b q qt ba bs cp f d r w hf h1 (sizeE_two _ _ _ _ _ _ _ h2)
      simpa only [ofV, ofE, h1, h2, and_false, if_false] using h
  · have h := refOf_no1 o m s b q qt ba bs cp f d r w hf (cfgE_two _ _ _ _ _ _ _ _ _ _ h1)
    simpa only [ofV, ofE, h1, false_and, if_false] using h
end Go.Proofs
end
