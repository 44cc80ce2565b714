/- Proved here: law 45's examples as a contract; BoundSizes answers true at any numbers, and leaves what was there. By an AI agent. -/
import Derived.Test.YtmheiipmancjpaaGreatDoorCaD
import Derived.Test.YtmheiipmancjpaaGreatDoorWaA
import Derived.Test.YtmheiipmancjpaaGreatDoorWaB
import Derived.Test.YtmheiipmancjpaaGreatDoorWaC
import Derived.Test.YtmheiipmancjpaaGreatDoorWaD
import Derived.Test.YtmheiipmancjpaaGreatDoorWaE
import Derived.Test.YtmheiipmancjpaaGreatDoorWaF
import Derived.Test.YtmheiipmancjpaaGreatDoorWaG
import Derived.Test.YtmheiipmancjpaaGreatDoorWaH
import Derived.Test.YtmheiipmancjpaaGreatDoorCaK
set_option linter.unusedVariables false
set_option linter.unusedSimpArgs false
section
set_option linter.unusedVariables false
namespace Go.Abs
open Go.Proofs
set_option maxRecDepth 100000
noncomputable section
theorem globs45 : E45.P.globals.size = 1 := by kernel_rfl
theorem none45_ok : CallOK E45 none45 := fun e => by cases e
theorem rec45 {tab : FuncId → Array Value → AHeap → Option (Value × AHeap)} (T : CallOK E45 tab) : RecOK E45 (evQ V45 tab 4000) := evQ_ok fits45 T 4000
theorem don45 {tab : FuncId → Array Value → AHeap → Option (Value × AHeap)} (T : CallOK E45 tab) (s : Don) (h : s.check 1 (evQ V45 tab 4000) = true) : CallOK E45 s.tab := Don.ok (rec45 T) s (by rw [globs45]; exact h)
theorem tab2_ok : CallOK E45 tab2 := by
  refine look_ok fun p hp s hs => ?_
  simp only [List.mem_cons, List.not_mem_nil, or_false] at hp
  rcases hp with rfl | rfl
  · simp only [List.mem_cons, List.not_mem_nil, or_false] at hs
    subst hs; exact don45 none45_ok _ dn0_ok
  · simp only [List.mem_cons, List.not_mem_nil, or_false] at hs
    rcases hs with rfl | rfl | rfl | rfl | rfl | rfl | rfl | rfl | rfl | rfl | rfl | rfl | rfl | rfl | rfl
    · exact don45 none45_ok _ dd0_ok
    · exact don45 none45_ok _ dd1_ok
    · exact don45 none45_ok _ dd2_ok
    · exact don45 none45_ok _ dd3_ok
    · exact don45 none45_ok _ dd4_ok
    · exact don45 none45_ok _ dd5_ok
    · exact don45 none45_ok _ dd6_ok
    · exact don45 none45_ok _ dd7_ok
    · exact don45 none45_ok _ dd8_ok
    · exact don45 none45_ok _ dd9_ok
    · exact don45 none45_ok _ dd10_ok
    · exact don45 none45_ok _ dd11_ok
    · exact don45 none45_ok _ dd12_ok
    · exact don45 none45_ok _ dd13_ok
    · exact don45 none45_ok _ dd14_ok
theorem tab3_ok : CallOK E45 tab3 := by
  refine look_ok fun p hp s hs => ?_
  simp only [List.mem_cons, List.not_mem_nil, or_false] at hp
  rcases hp with rfl | rfl
  · simp only [List.mem_cons, List.not_mem_nil, or_false] at hs
    subst hs; exact don45 none45_ok _ dn0_ok
  · simp only [List.mem_cons, List.not_mem_nil, or_false] at hs
    rcases hs with rfl | rfl
    · exact don45 tab2_ok _ dr0_ok
    · exact don45 tab2_ok _ dr1_ok
/-- law45.works answers true, and leaves what was there. -/
theorem worksCalls (t : TypeId) (W : World) (h : W.heap[0]? = some (.cells #[.int .u8 0, .int .u8 111, .int .u8 108, .int .u8 102] t (0, 0))) : Calls Tryz.prog 13 #[] W fun en w' => en = .returned (.bool true) ∧ Stays W w' :=
  works_calls (E := E45) (rec45 tab3_ok) globs45 (works45 t) W h
end
end Go.Abs
end
section
set_option linter.unusedVariables false
namespace Go.Proofs
open Go.RowKit Go.Bound
open Go.Abs (Made1 Made2 Stays)
set_option maxRecDepth 100000
theorem mono_stays {f : FuncId} {args : Array Value} {w : World} {e : Ending} (h : Calls Tryz.prog f args w fun en w' => en = e ∧ Below w.heap.size w w') : Calls Tryz.prog f args w fun en w' => en = e ∧ Stays w w' :=
  h.mono fun en w' k => ⟨k.1, Stays.of_below k.2⟩
/-- BoundSizes answers true, whatever the numbers, and leaves what was there. -/
theorem boundSizesCalls (x0 x1 x2 x3 x4 x5 x6 o m s b q qt ba bs cp f d r : Int) (hf : f ≤ 4294967295) (t : TypeId) (w : World) (h0 : w.heap[0]? = some (.cells #[.int .u8 0, .int .u8 111, .int .u8 108, .int .u8 102] t (0, 0))) :
    Calls Tryz.prog 3 #[.agg #[.int .i64 x0, .int .i64 x1, .int .i64 x2, .int .i64 x3, .int .i64 x4, .int .i64 x5, .int .i64 x6], .agg #[.int .i64 o, .int .i64 m, .int .i64 s, .int .i64 b, .int .i64 q, .int .i64 qt, .int .i64 ba, .int .i64 bs, .int .i64 cp, .int .u32 f], .int .i64 d, .int .i64 r] w fun en w' => en = .returned (.bool true) ∧ Stays w w' :=
  sizesBody x0 x1 x2 x3 x4 x5 x6 o m s b q qt ba bs cp f d r _ _ _ _ _ _ _ _ _ _ _ _ _ t w
    (fun W => mono_stays (boundMark x0 x1 x2 x3 x4 x5 x6 W)) (fun W => mono_stays (refMark x0 x1 x2 x3 x4 x5 x6 W))
    (fun W => mono_stays (boundBound x0 x1 x2 x3 x4 x5 x6 W)) (fun W => mono_stays (refBound x0 x1 x2 x3 x4 x5 x6 W))
    (fun W => boundOf o m s b q qt ba bs cp f d r W hf) (fun W => refOf o m s b q qt ba bs cp f d r W hf)
    (fun W => mono_stays (boundCheck x0 x1 x2 x3 x4 x5 x6 W)) (fun W => mono_stays (ref45Check x0 x1 x2 x3 x4 x5 x6 W))
    (fun W h => Go.Abs.worksCalls t W h) h0
end Go.Proofs
end
