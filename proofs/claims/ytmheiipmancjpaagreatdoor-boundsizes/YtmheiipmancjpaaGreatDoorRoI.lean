/- Proved here: the row's contract lifted to the model's calls, with a witness. By an AI agent. -/
import Derived.Test.YtmheiipmancjpaaGreatDoorRoA
import Derived.Test.YtmheiipmancjpaaGreatDoorCaL
set_option linter.unusedVariables false
set_option linter.unusedSimpArgs false
set_option linter.unusedVariables false
set_option maxRecDepth 100000
namespace Go.Proofs.YtmheiipmancjpaaGreatDoor
open Go.ChangeShapes Go.WideShapes Go.ChangeAt Go.RowKit Go.Flat
open Go.Abs (Stays)
theorem u24 : Tryz.prog.underlying 24 = some (.int .u32) := by kernel_rfl
theorem c2 : Tryz.prog.cellsOf 2 = 1 := by kernel_rfl
theorem c3 : Tryz.prog.cellsOf 3 = 1 := by kernel_rfl
theorem c24 : Tryz.prog.cellsOf 24 = 1 := by kernel_rfl
theorem c23 : Tryz.prog.cellsOf 23 = 7 := by kernel_rfl
theorem c26 : Tryz.prog.cellsOf 26 = 10 := by kernel_rfl
section
variable {H : Type} {enc : TypeId × Value → H} {w w' : World} {base b' : Nat} {spare s' : Nat → Bool} {held h' : Bool} {fuel : Nat} {cs : List Value} {x : DataW H × List MemPlace}
theorem same23 (cs : List Value) (fuel : Nat) : DataW.trod enc Tryz.prog w base spare held fuel 23 cs = DataW.trod enc Tryz.prog w' b' s' h' fuel 23 cs := by
  refine flat_same Tryz.underlying23 (fun f hf => ?_) cs fuel
  simp only [List.mem_cons, List.not_mem_nil, or_false] at hf
  rcases hf with rfl | rfl | rfl | rfl | rfl | rfl | rfl <;> first | exact ⟨_, Tryz.underlying3⟩ | exact ⟨_, Tryz.underlying2⟩
theorem same26 (cs : List Value) (fuel : Nat) : DataW.trod enc Tryz.prog w base spare held fuel 26 cs = DataW.trod enc Tryz.prog w' b' s' h' fuel 26 cs := by
  refine flat_same Tryz.underlying26 (fun f hf => ?_) cs fuel
  simp only [List.mem_cons, List.not_mem_nil, or_false] at hf
  rcases hf with rfl | rfl | rfl | rfl | rfl | rfl | rfl | rfl | rfl | rfl <;> first | exact ⟨_, Tryz.underlying3⟩ | exact ⟨_, Tryz.underlying2⟩ | exact ⟨_, u24⟩
theorem open23 (h : DataW.trod enc Tryz.prog w base spare held fuel 23 cs = some x) : ∃ x0 x1 x2 x3 x4 x5 x6 : Int, cs = [.int .i64 x0, .int .i64 x1, .int .i64 x2, .int .i64 x3, .int .i64 x4, .int .i64 x5, .int .i64 x6] := by
  have hl : cs.length = 7 := by obtain ⟨_, _, _, _, hl, _⟩ := DataW.trod_struct Tryz.underlying23 h; rw [hl, c23]
  obtain ⟨x0, e0, _⟩ := flat_cell (i := 0) Tryz.underlying23 h rfl rfl c3 Tryz.underlying3
  obtain ⟨x1, e1, _⟩ := flat_cell (i := 1) Tryz.underlying23 h rfl rfl c3 Tryz.underlying3
  obtain ⟨x2, e2, _⟩ := flat_cell (i := 2) Tryz.underlying23 h rfl rfl c3 Tryz.underlying3
  obtain ⟨x3, e3, _⟩ := flat_cell (i := 3) Tryz.underlying23 h rfl rfl c3 Tryz.underlying3
  obtain ⟨x4, e4, _⟩ := flat_cell (i := 4) Tryz.underlying23 h rfl rfl c3 Tryz.underlying3
  obtain ⟨x5, e5, _⟩ := flat_cell (i := 5) Tryz.underlying23 h rfl rfl c3 Tryz.underlying3
  obtain ⟨x6, e6, _⟩ := flat_cell (i := 6) Tryz.underlying23 h rfl rfl c2 Tryz.underlying2
  refine ⟨x0, x1, x2, x3, x4, x5, x6, ?_⟩
  match cs, hl with
  | [a0, a1, a2, a3, a4, a5, a6], _ =>
    simp at e0 e1 e2 e3 e4 e5 e6
    simp [e0, e1, e2, e3, e4, e5, e6]
theorem open26 (h : DataW.trod enc Tryz.prog w base spare held fuel 26 cs = some x) : ∃ x0 x1 x2 x3 x4 x5 x6 x7 x8 x9 : Int, cs = [.int .i64 x0, .int .i64 x1, .int .i64 x2, .int .i64 x3, .int .i64 x4, .int .i64 x5, .int .i64 x6, .int .i64 x7, .int .i64 x8, .int .u32 x9] ∧ x9 ≤ 4294967295 := by
  have hl : cs.length = 10 := by obtain ⟨_, _, _, _, hl, _⟩ := DataW.trod_struct Tryz.underlying26 h; rw [hl, c26]
  obtain ⟨x0, e0, _⟩ := flat_cell (i := 0) Tryz.underlying26 h rfl rfl c3 Tryz.underlying3
  obtain ⟨x1, e1, _⟩ := flat_cell (i := 1) Tryz.underlying26 h rfl rfl c3 Tryz.underlying3
  obtain ⟨x2, e2, _⟩ := flat_cell (i := 2) Tryz.underlying26 h rfl rfl c3 Tryz.underlying3
  obtain ⟨x3, e3, _⟩ := flat_cell (i := 3) Tryz.underlying26 h rfl rfl c3 Tryz.underlying3
  obtain ⟨x4, e4, _⟩ := flat_cell (i := 4) Tryz.underlying26 h rfl rfl c3 Tryz.underlying3
  obtain ⟨x5, e5, _⟩ := flat_cell (i := 5) Tryz.underlying26 h rfl rfl c3 Tryz.underlying3
  obtain ⟨x6, e6, _⟩ := flat_cell (i := 6) Tryz.underlying26 h rfl rfl c3 Tryz.underlying3
  obtain ⟨x7, e7, _⟩ := flat_cell (i := 7) Tryz.underlying26 h rfl rfl c2 Tryz.underlying2
  obtain ⟨x8, e8, _⟩ := flat_cell (i := 8) Tryz.underlying26 h rfl rfl c2 Tryz.underlying2
  obtain ⟨x9, e9, hw⟩ := flat_cell (i := 9) Tryz.underlying26 h rfl rfl c24 u24
  refine ⟨x0, x1, x2, x3, x4, x5, x6, x7, x8, x9, ?_, ?_⟩
  · match cs, hl with
    | [a0, a1, a2, a3, a4, a5, a6, a7, a8, a9], _ =>
      simp at e0 e1 e2 e3 e4 e5 e6 e7 e8 e9
      simp [e0, e1, e2, e3, e4, e5, e6, e7, e8, e9]
  · simp [Lit.wf, IntKind.min, IntKind.max, IntKind.signed, IntKind.bits] at hw
    omega
end
/-- The door's own heap meets the condition. -/
theorem door_met (os : Os) (args : Array Value) : laidMetH Tryz.prog Rows.boundSizesRow.laid ((World.doorLaid Tryz.prog 400 os).forCall (fun _ _ => 0) ⟨#[], args, []⟩).memory :=
  laidMetH_of_parts3 (fuel := 8) (laidMet_of_run' 8 (by kernel_rfl) (by kernel_rfl)) (by kernel_rfl) (by kernel_rfl)
theorem boundSizes_lifted (os : Os) (started : os.Started) (H : Type) (enc : TypeId × Value → H) :
    ReturnsInHanded {} Tryz.checked os 3 .any (fun w args => (Rows.boundSizesSpec.pre enc Tryz.prog Tryz.f3 [] false w args ∧ laidMetH Tryz.prog Rows.boundSizesRow.laid w) ∧ sizedMet enc Tryz.prog Tryz.f3 (OpenSpec.ofChange Rows.boundSizesSpec) false w args)
      (Rows.boundSizesSpec.post enc Tryz.prog Tryz.f3 false true false false) := by
  refine returnsInHanded_of_change_and (C := Tryz.checked) (X := fun w _ => laidMetH Tryz.prog Rows.boundSizesRow.laid w) (fun _ _ _ hh h => h.of_heap hh) own started (by kernel_rfl) Tryz.func3
    (ChangeSpec.witness_shaped (enc := enc) (C := Tryz.checked) (os := os) (X := fun w _ => laidMetH Tryz.prog Rows.boundSizesRow.laid w) false (World.doorLaid Tryz.prog 400 os) #[.agg #[.int .i64 0, .int .i64 0, .int .i64 0, .int .i64 0, .int .i64 0, .int .i64 0, .int .i64 0], .agg #[.int .i64 0, .int .i64 0, .int .i64 0, .int .i64 0, .int .i64 0, .int .i64 0, .int .i64 0, .int .i64 0, .int .i64 0, .int .u32 0], .int .i64 0, .int .i64 0] 8 rfl (World.shaped_of_RefB (by kernel_rfl) (by kernel_rfl)) (by kernel_rfl) (by kernel_rfl) (by kernel_rfl) (door_met os _)) ?_
  intro W base args ds gs before hval0 hW _ _ hL _
  have hval : ∀ (j : Nat) t v, Tryz.f3.params[j]? = some t → args[j]? = some v → Value.okWide Tryz.prog W .any base t v := hval0
  have hW' := hW
  obtain ⟨p, q, hA0, hV, rfl, hfz, hnd⟩ := hW
  have hA : DataW.TrodAll enc Tryz.prog W 0 (fun _ => true) true Tryz.f3.params.toList args.toList ds p := hA0
  obtain ⟨rfl, rfl⟩ := trodVars_none hV
  rw [Tryz.params3] at hA hval
  obtain ⟨v0, l0, d0, r0, p0, q0, ea, rfl, rfl, k0, hA⟩ := trodAll_cons hA
  obtain ⟨v1, l1, d1, r1, p1, q1, rfl, rfl, rfl, k1, hA⟩ := trodAll_cons hA
  obtain ⟨v2, l2, d2, r2, p2, q2, rfl, rfl, rfl, k2, hA⟩ := trodAll_cons hA
  obtain ⟨v3, l3, d3, r3, p3, q3, rfl, rfl, rfl, k3, hA⟩ := trodAll_cons hA
  have hn : l3 = [] ∧ r3 = [] ∧ q3 = [] := by
    cases l3 <;> cases r3 <;> simp_all [DataW.TrodAll]
  obtain ⟨rfl, rfl, rfl⟩ := hn
  have hargs : args = #[v0, v1, v2, v3] := by cases args; simp_all
  subst hargs
  have j0 := k0; have j1 := k1; have j2 := k2; have j3 := k3
  obtain ⟨f0, m0⟩ := k0
  obtain ⟨f1, m1⟩ := k1
  obtain ⟨c0, rfl, _⟩ := okWide_struct Tryz.underlying23 (hval 0 23 v0 rfl rfl)
  obtain ⟨c1, rfl, _⟩ := okWide_struct Tryz.underlying26 (hval 1 26 v1 rfl rfl)
  obtain ⟨n2, rfl, rfl, rfl, hw2⟩ := open_int Tryz.underlying3 (hval 2 3 v2 rfl rfl) k2
  obtain ⟨n3, rfl, rfl, rfl, hw3⟩ := open_int Tryz.underlying3 (hval 3 3 v3 rfl rfl) k3
  obtain ⟨x0, x1, x2, x3, x4, x5, x6, e0⟩ := open23 m0
  obtain ⟨y0, y1, y2, y3, y4, y5, y6, y7, y8, y9, e1, hy⟩ := open26 m1
  have e0 : c0 = #[.int .i64 x0, .int .i64 x1, .int .i64 x2, .int .i64 x3, .int .i64 x4, .int .i64 x5, .int .i64 x6] := by cases c0; simpa [Value.cells] using e0
  have e1 : c1 = #[.int .i64 y0, .int .i64 y1, .int .i64 y2, .int .i64 y3, .int .i64 y4, .int .i64 y5, .int .i64 y6, .int .i64 y7, .int .i64 y8, .int .u32 y9] := by cases c1; simpa [Value.cells] using e1
  obtain ⟨t, hL0⟩ := of_laid hL
  subst e0 e1
  refine (boundSizesCalls x0 x1 x2 x3 x4 x5 x6 y0 y1 y2 y3 y4 y5 y6 y7 y8 y9 n2 n3 hy t W hL0).mono fun e W' ⟨he, hw⟩ => ?_
  subst he
  have hb : DataW.TrodAll enc Tryz.prog W' 0 (fun b => decide (b < W.heap.size)) true [23, 26, 3, 3] [_, _, _, _] [d0, d1, _, _] _ :=
    trodAll_cons_mk ⟨f0, (same23 _ _).trans m0⟩ (trodAll_cons_mk ⟨f1, (same26 _ _).trans m1⟩ (trodAll_cons_mk (shut_int Tryz.underlying3 hw2) (trodAll_mk1 (shut_int Tryz.underlying3 hw3))))
  exact ⟨_, rfl, _, _, _, [], _, [], hW', trodAll_mk1 (shut_bool Tryz.underlying4 true), hb, rfl, stays_kept hw _, fun h => by cases h⟩
end Go.Proofs.YtmheiipmancjpaaGreatDoor
