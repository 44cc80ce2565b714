/- Proved here: BoundSizes answers true over its callees' contracts. By an AI agent. -/
import Derived.Test.YtmheiipmancjpaaGreatDoorCaJ
import Derived.Deep.RegionHeld3
import Derived.Deep.DeepCutAuto
set_option linter.unusedVariables false
set_option linter.unusedSimpArgs false
set_option linter.unusedVariables false
set_option linter.unusedSimpArgs false
namespace Go.Proofs
open Go.RowKit Go.Bound
open Go.Abs (Made1 Made2 Stays)
set_option maxHeartbeats 4000000
set_option maxRecDepth 100000
theorem cell_lt {W : World} {b o : Nat} {v : Value} (h : W.cell? ⟨b, o, none⟩ = some v) : b < W.heap.size := by
  refine Classical.byContradiction fun hn => ?_
  have : W.heap[b]? = none := Array.getElem?_eq_none (by omega)
  simp [World.cell?, this] at h
theorem keep1 {W W' : World} (hs : Stays W W') {b o : Nat} {v : Value} (h : W.cell? ⟨b, o, none⟩ = some v) : W'.cell? ⟨b, o, none⟩ = some v := by
  rw [(scell hs).1 b o (cell_lt h)]; exact h
theorem last29 {W : World} {b1 b2 b3 b4 : Nat} {y0 y1 y2 y3 y4 y5 y6 y7 y8 y9 y10 y11 y12 y13 y14 y15 y16 y17 y18 y19 y20 y21 y22 y23 y24 y25 y26 y27 : Value} {ob : Obj} (h : W.cell? ⟨b1, 0, none⟩ = some y0 ∧ W.cell? ⟨b1, 1, none⟩ = some y1 ∧ W.cell? ⟨b1, 2, none⟩ = some y2 ∧ W.cell? ⟨b1, 3, none⟩ = some y3 ∧ W.cell? ⟨b1, 4, none⟩ = some y4 ∧ W.cell? ⟨b1, 5, none⟩ = some y5 ∧ W.cell? ⟨b1, 6, none⟩ = some y6 ∧ W.cell? ⟨b2, 0, none⟩ = some y7 ∧ W.cell? ⟨b2, 1, none⟩ = some y8 ∧ W.cell? ⟨b2, 2, none⟩ = some y9 ∧ W.cell? ⟨b2, 3, none⟩ = some y10 ∧ W.cell? ⟨b2, 4, none⟩ = some y11 ∧ W.cell? ⟨b2, 5, none⟩ = some y12 ∧ W.cell? ⟨b2, 6, none⟩ = some y13 ∧ W.cell? ⟨b3, 0, none⟩ = some y14 ∧ W.cell? ⟨b3, 1, none⟩ = some y15 ∧ W.cell? ⟨b3, 2, none⟩ = some y16 ∧ W.cell? ⟨b3, 3, none⟩ = some y17 ∧ W.cell? ⟨b3, 4, none⟩ = some y18 ∧ W.cell? ⟨b3, 5, none⟩ = some y19 ∧ W.cell? ⟨b3, 6, none⟩ = some y20 ∧ W.cell? ⟨b4, 0, none⟩ = some y21 ∧ W.cell? ⟨b4, 1, none⟩ = some y22 ∧ W.cell? ⟨b4, 2, none⟩ = some y23 ∧ W.cell? ⟨b4, 3, none⟩ = some y24 ∧ W.cell? ⟨b4, 4, none⟩ = some y25 ∧ W.cell? ⟨b4, 5, none⟩ = some y26 ∧ W.cell? ⟨b4, 6, none⟩ = some y27 ∧ W.heap[0]? = some ob) : W.heap[0]? = some ob := by
  obtain ⟨h0, h1, h2, h3, h4, h5, h6, h7, h8, h9, h10, h11, h12, h13, h14, h15, h16, h17, h18, h19, h20, h21, h22, h23, h24, h25, h26, h27, hL⟩ := h
  exact hL
theorem keep29 {W W' : World} (hs : Stays W W') {b1 b2 b3 b4 : Nat} {y0 y1 y2 y3 y4 y5 y6 y7 y8 y9 y10 y11 y12 y13 y14 y15 y16 y17 y18 y19 y20 y21 y22 y23 y24 y25 y26 y27 : Value} {ob : Obj} (h : W.cell? ⟨b1, 0, none⟩ = some y0 ∧ W.cell? ⟨b1, 1, none⟩ = some y1 ∧ W.cell? ⟨b1, 2, none⟩ = some y2 ∧ W.cell? ⟨b1, 3, none⟩ = some y3 ∧ W.cell? ⟨b1, 4, none⟩ = some y4 ∧ W.cell? ⟨b1, 5, none⟩ = some y5 ∧ W.cell? ⟨b1, 6, none⟩ = some y6 ∧ W.cell? ⟨b2, 0, none⟩ = some y7 ∧ W.cell? ⟨b2, 1, none⟩ = some y8 ∧ W.cell? ⟨b2, 2, none⟩ = some y9 ∧ W.cell? ⟨b2, 3, none⟩ = some y10 ∧ W.cell? ⟨b2, 4, none⟩ = some y11 ∧ W.cell? ⟨b2, 5, none⟩ = some y12 ∧ W.cell? ⟨b2, 6, none⟩ = some y13 ∧ W.cell? ⟨b3, 0, none⟩ = some y14 ∧ W.cell? ⟨b3, 1, none⟩ = some y15 ∧ W.cell? ⟨b3, 2, none⟩ = some y16 ∧ W.cell? ⟨b3, 3, none⟩ = some y17 ∧ W.cell? ⟨b3, 4, none⟩ = some y18 ∧ W.cell? ⟨b3, 5, none⟩ = some y19 ∧ W.cell? ⟨b3, 6, none⟩ = some y20 ∧ W.cell? ⟨b4, 0, none⟩ = some y21 ∧ W.cell? ⟨b4, 1, none⟩ = some y22 ∧ W.cell? ⟨b4, 2, none⟩ = some y23 ∧ W.cell? ⟨b4, 3, none⟩ = some y24 ∧ W.cell? ⟨b4, 4, none⟩ = some y25 ∧ W.cell? ⟨b4, 5, none⟩ = some y26 ∧ W.cell? ⟨b4, 6, none⟩ = some y27 ∧ W.heap[0]? = some ob) : W'.cell? ⟨b1, 0, none⟩ = some y0 ∧ W'.cell? ⟨b1, 1, none⟩ = some y1 ∧ W'.cell? ⟨b1, 2, none⟩ = some y2 ∧ W'.cell? ⟨b1, 3, none⟩ = some y3 ∧ W'.cell? ⟨b1, 4, none⟩ = some y4 ∧ W'.cell? ⟨b1, 5, none⟩ = some y5 ∧ W'.cell? ⟨b1, 6, none⟩ = some y6 ∧ W'.cell? ⟨b2, 0, none⟩ = some y7 ∧ W'.cell? ⟨b2, 1, none⟩ = some y8 ∧ W'.cell? ⟨b2, 2, none⟩ = some y9 ∧ W'.cell? ⟨b2, 3, none⟩ = some y10 ∧ W'.cell? ⟨b2, 4, none⟩ = some y11 ∧ W'.cell? ⟨b2, 5, none⟩ = some y12 ∧ W'.cell? ⟨b2, 6, none⟩ = some y13 ∧ W'.cell? ⟨b3, 0, none⟩ = some y14 ∧ W'.cell? ⟨b3, 1, none⟩ = some y15 ∧ W'.cell? ⟨b3, 2, none⟩ = some y16 ∧ W'.cell? ⟨b3, 3, none⟩ = some y17 ∧ W'.cell? ⟨b3, 4, none⟩ = some y18 ∧ W'.cell? ⟨b3, 5, none⟩ = some y19 ∧ W'.cell? ⟨b3, 6, none⟩ = some y20 ∧ W'.cell? ⟨b4, 0, none⟩ = some y21 ∧ W'.cell? ⟨b4, 1, none⟩ = some y22 ∧ W'.cell? ⟨b4, 2, none⟩ = some y23 ∧ W'.cell? ⟨b4, 3, none⟩ = some y24 ∧ W'.cell? ⟨b4, 4, none⟩ = some y25 ∧ W'.cell? ⟨b4, 5, none⟩ = some y26 ∧ W'.cell? ⟨b4, 6, none⟩ = some y27 ∧ W'.heap[0]? = some ob := by
  obtain ⟨h0, h1, h2, h3, h4, h5, h6, h7, h8, h9, h10, h11, h12, h13, h14, h15, h16, h17, h18, h19, h20, h21, h22, h23, h24, h25, h26, h27, hL⟩ := h
  exact ⟨keep1 hs h0, keep1 hs h1, keep1 hs h2, keep1 hs h3, keep1 hs h4, keep1 hs h5, keep1 hs h6, keep1 hs h7, keep1 hs h8, keep1 hs h9, keep1 hs h10, keep1 hs h11, keep1 hs h12, keep1 hs h13, keep1 hs h14, keep1 hs h15, keep1 hs h16, keep1 hs h17, keep1 hs h18, keep1 hs h19, keep1 hs h20, keep1 hs h21, keep1 hs h22, keep1 hs h23, keep1 hs h24, keep1 hs h25, keep1 hs h26, keep1 hs h27, stay_block hL hs⟩
theorem sizesBody (x0 x1 x2 x3 x4 x5 x6 o m s b q qt ba bs cp f d r a x z e1 e2 e3 v0 v1 v2 v3 v4 v5 v6 : Int) (t : TypeId) (w : World)
    (H5 : ∀ W, Calls Tryz.prog 5 #[.agg #[.int .i64 x0, .int .i64 x1, .int .i64 x2, .int .i64 x3, .int .i64 x4, .int .i64 x5, .int .i64 x6]] W fun en w' => en = .returned (.tuple #[.int .i64 a, .int .i64 e1]) ∧ Stays W w')
    (H6 : ∀ W, Calls Tryz.prog 6 #[.agg #[.int .i64 x0, .int .i64 x1, .int .i64 x2, .int .i64 x3, .int .i64 x4, .int .i64 x5, .int .i64 x6]] W fun en w' => en = .returned (.tuple #[.int .i64 a, .int .i64 e1]) ∧ Stays W w')
    (H7 : ∀ W, Calls Tryz.prog 7 #[.agg #[.int .i64 x0, .int .i64 x1, .int .i64 x2, .int .i64 x3, .int .i64 x4, .int .i64 x5, .int .i64 x6]] W fun en w' => en = .returned (.tuple #[.int .i64 x, .int .i64 e2]) ∧ Stays W w')
    (H8 : ∀ W, Calls Tryz.prog 8 #[.agg #[.int .i64 x0, .int .i64 x1, .int .i64 x2, .int .i64 x3, .int .i64 x4, .int .i64 x5, .int .i64 x6]] W fun en w' => en = .returned (.tuple #[.int .i64 x, .int .i64 e2]) ∧ Stays W w')
    (H9 : ∀ W, Calls Tryz.prog 9 #[.agg #[.int .i64 o, .int .i64 m, .int .i64 s, .int .i64 b, .int .i64 q, .int .i64 qt, .int .i64 ba, .int .i64 bs, .int .i64 cp, .int .u32 f], .int .i64 d, .int .i64 r] W fun en w' => en = .returned (.tuple #[.agg #[.int .i64 v0, .int .i64 v1, .int .i64 v2, .int .i64 v3, .int .i64 v4, .int .i64 v5, .int .i64 v6], .int .i64 e3]) ∧ Stays W w')
    (H10 : ∀ W, Calls Tryz.prog 10 #[.agg #[.int .i64 o, .int .i64 m, .int .i64 s, .int .i64 b, .int .i64 q, .int .i64 qt, .int .i64 ba, .int .i64 bs, .int .i64 cp, .int .u32 f], .int .i64 d, .int .i64 r] W fun en w' => en = .returned (.tuple #[.agg #[.int .i64 v0, .int .i64 v1, .int .i64 v2, .int .i64 v3, .int .i64 v4, .int .i64 v5, .int .i64 v6], .int .i64 e3]) ∧ Stays W w')
    (H11 : ∀ W, Calls Tryz.prog 11 #[.agg #[.int .i64 x0, .int .i64 x1, .int .i64 x2, .int .i64 x3, .int .i64 x4, .int .i64 x5, .int .i64 x6]] W fun en w' => en = .returned (.int .i64 z) ∧ Stays W w')
    (H12 : ∀ W, Calls Tryz.prog 12 #[.agg #[.int .i64 x0, .int .i64 x1, .int .i64 x2, .int .i64 x3, .int .i64 x4, .int .i64 x5, .int .i64 x6]] W fun en w' => en = .returned (.int .i64 z) ∧ Stays W w')
    (H13 : ∀ W, W.heap[0]? = some (.cells #[.int .u8 0, .int .u8 111, .int .u8 108, .int .u8 102] t (0, 0)) → Calls Tryz.prog 13 #[] W fun en w' => en = .returned (.bool true) ∧ Stays W w')
    (h0 : w.heap[0]? = some (.cells #[.int .u8 0, .int .u8 111, .int .u8 108, .int .u8 102] t (0, 0))) :
    Calls Tryz.prog 3 #[.agg #[.int .i64 x0, .int .i64 x1, .int .i64 x2, .int .i64 x3, .int .i64 x4, .int .i64 x5, .int .i64 x6], .agg #[.int .i64 o, .int .i64 m, .int .i64 s, .int .i64 b, .int .i64 q, .int .i64 qt, .int .i64 ba, .int .i64 bs, .int .i64 cp, .int .u32 f], .int .i64 d, .int .i64 r] w fun en w' => en = .returned (.bool true) ∧ Stays w w' := by
  have H5 : Hid _ := H5
  have H6 : Hid _ := H6
  have H7 : Hid _ := H7
  have H8 : Hid _ := H8
  have H9 : Hid _ := H9
  have H10 : Hid _ := H10
  have H11 : Hid _ := H11
  have H12 : Hid _ := H12
  have H13 : Hid _ := H13
  have h0 : Hid _ := h0
  go_enter Tryz.func3, Tryz.ntmps3
  go_wp2_with (first
    | (go_at_call 5; refine (H5.out _).mono ?_; rintro en w1 ⟨rfl, k1⟩
       have gA1 : w1.heap[w.heap.size]? = some (.cells #[.int .i64 x0, .int .i64 x1, .int .i64 x2, .int .i64 x3, .int .i64 x4, .int .i64 x5, .int .i64 x6] 23 (0, 0)) := stay_block (stay_block (stay_block (top_block _ _ _) (stays_alloc _ _ _)) (stays_alloc _ _ _)) k1
       have gB1 : w1.heap[w.heap.size + 1]? = some (.cells #[.int .i64 o, .int .i64 m, .int .i64 s, .int .i64 b, .int .i64 q, .int .i64 qt, .int .i64 ba, .int .i64 bs, .int .i64 cp, .int .u32 f] 26 (0, 0)) := stay_block (stay_block (top1 _ _ _ _ _) (stays_alloc _ _ _)) k1
       have gC1 : w1.heap[w.heap.size + 1 + 1]? = some (.cells #[.int .i64 x0, .int .i64 x1, .int .i64 x2, .int .i64 x3, .int .i64 x4, .int .i64 x5, .int .i64 x6] 27 (0, 0)) := stay_block (top2 _ _ _ _ _ _ _) k1
       have S1 : Stays w w1 := Stays.trans (Stays.trans (Stays.trans (stays_alloc _ _ _) (stays_alloc _ _ _)) (stays_alloc _ _ _)) k1
       clear k1
       obtain ⟨⟨c0, c1, c2, c3, c4, c5, c6⟩, -⟩ := blk7 gC1
       have S1 : Hid _ := S1
       have gA1 : Hid _ := gA1
       have gB1 : Hid _ := gB1
       have gC1 : Hid _ := gC1
  )
    | (go_at_call 6; refine (H6.out _).mono ?_; rintro en w2 ⟨rfl, k2⟩
       clear c0 c1 c2 c3 c4 c5 c6
       have gA2 := stay_block gA1.out k2
       have gB2 := stay_block gB1.out k2
       have gC2 := stay_block gC1.out k2
       have S2 : Stays w w2 := Stays.trans S1.out k2
       clear k2 gA1 gB1 gC1 S1
       obtain ⟨⟨c0, c1, c2, c3, c4, c5, c6⟩, -⟩ := blk7 gA2
       have S2 : Hid _ := S2
       have gA2 : Hid _ := gA2
       have gB2 : Hid _ := gB2
       have gC2 : Hid _ := gC2
  )
    | (go_at_call 7; refine (H7.out _).mono ?_; rintro en w3 ⟨rfl, k3⟩
       clear c0 c1 c2 c3 c4 c5 c6
       have gA3 := stay_block gA2.out k3
       have gB3 := stay_block gB2.out k3
       have gC3 := stay_block gC2.out k3
       have S3 : Stays w w3 := Stays.trans S2.out k3
       clear k3 gA2 gB2 gC2 S2
       obtain ⟨⟨c0, c1, c2, c3, c4, c5, c6⟩, -⟩ := blk7 gC3
       have S3 : Hid _ := S3
       have gA3 : Hid _ := gA3
       have gB3 : Hid _ := gB3
       have gC3 : Hid _ := gC3
  )
    | (go_at_call 8; refine (H8.out _).mono ?_; rintro en w4 ⟨rfl, k4⟩
       clear c0 c1 c2 c3 c4 c5 c6
       have gA4 := stay_block gA3.out k4
       have gB4 := stay_block gB3.out k4
       have gC4 := stay_block gC3.out k4
       have S4 : Stays w w4 := Stays.trans S3.out k4
       clear k4 gA3 gB3 gC3 S3
       obtain ⟨c0, c1, c2, c3, c4, c5, c6, c7, c8, c9⟩ := blk10 gB4
       have S4 : Hid _ := S4
       have gA4 : Hid _ := gA4
       have gB4 : Hid _ := gB4
       have gC4 : Hid _ := gC4
  )
    | (go_at_call 9; refine (H9.out _).mono ?_; rintro en w5 ⟨rfl, k5⟩
       clear c0 c1 c2 c3 c4 c5 c6 c7 c8 c9
       have gA5 := stay_block gA4.out (Stays.trans k5 (stays_alloc w5 #[.int .i64 v0, .int .i64 v1, .int .i64 v2, .int .i64 v3, .int .i64 v4, .int .i64 v5, .int .i64 v6] 23))
       have gB5 := stay_block gB4.out (Stays.trans k5 (stays_alloc w5 #[.int .i64 v0, .int .i64 v1, .int .i64 v2, .int .i64 v3, .int .i64 v4, .int .i64 v5, .int .i64 v6] 23))
       have gC5 := stay_block gC4.out (Stays.trans k5 (stays_alloc w5 #[.int .i64 v0, .int .i64 v1, .int .i64 v2, .int .i64 v3, .int .i64 v4, .int .i64 v5, .int .i64 v6] 23))
       have S5 : Stays w w5 := Stays.trans S4.out k5
       clear k5 gA4 gB4 gC4 S4
       obtain ⟨c0, c1, c2, c3, c4, c5, c6, c7, c8, c9⟩ := blk10 gB5
       have S5 : Hid _ := S5
       have gA5 : Hid _ := gA5
       have gB5 : Hid _ := gB5
       have gC5 : Hid _ := gC5
  )
    | (go_at_call 10; refine (H10.out _).mono ?_; rintro en w6 ⟨rfl, k6⟩
       clear c0 c1 c2 c3 c4 c5 c6 c7 c8 c9
       have gD6 : w6.heap[w5.heap.size]? = some (.cells #[.int .i64 v0, .int .i64 v1, .int .i64 v2, .int .i64 v3, .int .i64 v4, .int .i64 v5, .int .i64 v6] 23 (0, 0)) := stay_block (top_block _ _ _) k6
       have gA6 := stay_block gA5.out k6
       have gB6 := stay_block gB5.out k6
       have gC6 := stay_block gC5.out k6
       have S6 : Stays w w6 := Stays.trans S5.out (Stays.trans (stays_alloc _ _ _) k6)
       have L6 := stay_block h0.out S6
       clear k6 gA5 gB5 gC5 S5
       have S6 : Hid _ := S6
       have L6 : Hid _ := L6
       have gD6 : Hid _ := gD6
       have gA6 : Hid _ := gA6
       have gB6 : Hid _ := gB6
       have gC6 : Hid _ := gC6
  ))
  have S7 : Stays w (w6.alloc (.cells #[.int .i64 v0, .int .i64 v1, .int .i64 v2, .int .i64 v3, .int .i64 v4, .int .i64 v5, .int .i64 v6] 27)) := Stays.trans S6.out (stays_alloc _ _ _)
  obtain ⟨⟨q0, q1, q2, q3, q4, q5, q6⟩, -⟩ := blk7 (stay_block gA6.out (stays_alloc w6 #[.int .i64 v0, .int .i64 v1, .int .i64 v2, .int .i64 v3, .int .i64 v4, .int .i64 v5, .int .i64 v6] 27))
  obtain ⟨⟨q7, q8, q9, q10, q11, q12, q13⟩, -⟩ := blk7 (stay_block gC6.out (stays_alloc w6 #[.int .i64 v0, .int .i64 v1, .int .i64 v2, .int .i64 v3, .int .i64 v4, .int .i64 v5, .int .i64 v6] 27))
  obtain ⟨⟨q14, q15, q16, q17, q18, q19, q20⟩, -⟩ := blk7 (stay_block gD6.out (stays_alloc w6 #[.int .i64 v0, .int .i64 v1, .int .i64 v2, .int .i64 v3, .int .i64 v4, .int .i64 v5, .int .i64 v6] 27))
  obtain ⟨⟨q21, q22, q23, q24, q25, q26, q27⟩, -⟩ := blk7 (top_block w6 #[.int .i64 v0, .int .i64 v1, .int .i64 v2, .int .i64 v3, .int .i64 v4, .int .i64 v5, .int .i64 v6] 27)
  have qL := stay_block L6.out (stays_alloc w6 #[.int .i64 v0, .int .i64 v1, .int .i64 v2, .int .i64 v3, .int .i64 v4, .int .i64 v5, .int .i64 v6] 27)
  clear gA6 gB6 gC6 gD6 L6 S6
  have S7 : Hid _ := S7
  generalize w6.alloc (.cells #[.int .i64 v0, .int .i64 v1, .int .i64 v2, .int .i64 v3, .int .i64 v4, .int .i64 v5, .int .i64 v6] 27) = w7 at *
  go_region_held3 (fun w' => w'.cell? ⟨w.heap.size, 0, none⟩ = some (.int .i64 x0) ∧ w'.cell? ⟨w.heap.size, 1, none⟩ = some (.int .i64 x1) ∧ w'.cell? ⟨w.heap.size, 2, none⟩ = some (.int .i64 x2) ∧ w'.cell? ⟨w.heap.size, 3, none⟩ = some (.int .i64 x3) ∧ w'.cell? ⟨w.heap.size, 4, none⟩ = some (.int .i64 x4) ∧ w'.cell? ⟨w.heap.size, 5, none⟩ = some (.int .i64 x5) ∧ w'.cell? ⟨w.heap.size, 6, none⟩ = some (.int .i64 x6) ∧ w'.cell? ⟨w.heap.size + 1 + 1, 0, none⟩ = some (.int .i64 x0) ∧ w'.cell? ⟨w.heap.size + 1 + 1, 1, none⟩ = some (.int .i64 x1) ∧ w'.cell? ⟨w.heap.size + 1 + 1, 2, none⟩ = some (.int .i64 x2) ∧ w'.cell? ⟨w.heap.size + 1 + 1, 3, none⟩ = some (.int .i64 x3) ∧ w'.cell? ⟨w.heap.size + 1 + 1, 4, none⟩ = some (.int .i64 x4) ∧ w'.cell? ⟨w.heap.size + 1 + 1, 5, none⟩ = some (.int .i64 x5) ∧ w'.cell? ⟨w.heap.size + 1 + 1, 6, none⟩ = some (.int .i64 x6) ∧ w'.cell? ⟨w5.heap.size, 0, none⟩ = some (.int .i64 v0) ∧ w'.cell? ⟨w5.heap.size, 1, none⟩ = some (.int .i64 v1) ∧ w'.cell? ⟨w5.heap.size, 2, none⟩ = some (.int .i64 v2) ∧ w'.cell? ⟨w5.heap.size, 3, none⟩ = some (.int .i64 v3) ∧ w'.cell? ⟨w5.heap.size, 4, none⟩ = some (.int .i64 v4) ∧ w'.cell? ⟨w5.heap.size, 5, none⟩ = some (.int .i64 v5) ∧ w'.cell? ⟨w5.heap.size, 6, none⟩ = some (.int .i64 v6) ∧ w'.cell? ⟨w6.heap.size, 0, none⟩ = some (.int .i64 v0) ∧ w'.cell? ⟨w6.heap.size, 1, none⟩ = some (.int .i64 v1) ∧ w'.cell? ⟨w6.heap.size, 2, none⟩ = some (.int .i64 v2) ∧ w'.cell? ⟨w6.heap.size, 3, none⟩ = some (.int .i64 v3) ∧ w'.cell? ⟨w6.heap.size, 4, none⟩ = some (.int .i64 v4) ∧ w'.cell? ⟨w6.heap.size, 5, none⟩ = some (.int .i64 v5) ∧ w'.cell? ⟨w6.heap.size, 6, none⟩ = some (.int .i64 v6) ∧ w'.heap[0]? = some (.cells #[.int .u8 0, .int .u8 111, .int .u8 108, .int .u8 102] t (0, 0))) (first | exact pS | exact ⟨q0, q1, q2, q3, q4, q5, q6, q7, q8, q9, q10, q11, q12, q13, q14, q15, q16, q17, q18, q19, q20, q21, q22, q23, q24, q25, q26, q27, qL⟩ | go_keep)
    (first
      | (go_at_call 11; refine (H11.out _).mono ?_; rintro en w' ⟨rfl, hk11⟩; have pS := keep29 hk11 (by assumption))
      | (go_at_call 12; refine (H12.out _).mono ?_; rintro en w' ⟨rfl, hk12⟩; have pS := keep29 hk12 (by assumption))
      | (go_at_call 13; refine (H13.out _ (last29 (by assumption))).mono ?_; rintro en w' ⟨rfl, hk13⟩; have pS := keep29 hk13 (by assumption)))
  go_wp2_with fail
  go_ret
  exact ⟨rfl, Stays.trans S7.out (Stays.trans (Stays.trans (Go.Abs.stays_drew w7) hk11) (Stays.trans hk12 hk13))⟩
end Go.Proofs
