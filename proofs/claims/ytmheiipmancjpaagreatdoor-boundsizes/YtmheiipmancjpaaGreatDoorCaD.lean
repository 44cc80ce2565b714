/- Proved here: the evaluator fits this program; the document's constructors; contracts of all constructors. By an AI agent. -/
import Derived.Test.YtmheiipmancjpaaGreatDoorAbN
import Derived.Test.YtmheiipmancjpaaGreatDoorCaA
import Derived.OwnWalk
import Derived.Test.YtmheiipmancjpaaGreatDoorCaB
set_option linter.unusedVariables false
set_option linter.unusedSimpArgs false
section
namespace Go.Abs
open Go.Proofs
set_option maxRecDepth 100000
noncomputable section
theorem names45 : (E45.P.funcs.toList.all fun fn => fn.body.isNone || !(fn.name == "runtime.NumGoroutine")) = true := by kernel_rfl
theorem enter45 (f : FuncId) (fn : Func) (c : Code) (hf : E45.P.funcs[f]? = some fn) (hc : fn.body = some c) (args : Array Value) (w : World) : (callFunc f args).run E45.P w = .ok (.enter f args) w := by
  have hn := List.all_eq_true.1 names45 fn (Array.mem_toList_iff.2 (Array.mem_of_getElem? hf))
  simp only [hc, Option.isNone_some, Bool.false_or, Bool.not_eq_true'] at hn
  have hp : (program).run E45.P w = .ok E45.P w := rfl
  simp only [callFunc, Sem.run_bind, hp, Result.andThen_ok, hf, hn, hc, Option.isNone_some, Bool.false_eq_true, if_false, Sem.run_pure]
theorem find45 : Extern.findNext Tryz.f328 = none := by kernel_rfl
theorem find45' : Extern.find Tryz.f328 = some Extern.MapsClone.clone := by kernel_rfl
theorem clone45 (f : FuncId) (h : E45.clones f = true) (args : Array Value) (w : World) : (callFunc f args).run E45.P w = ((Extern.MapsClone.clone args).run E45.P w).andThen fun v w' => .ok (.value v) w' := by
  have e : f = 328 := Nat.eq_of_beq_eq_true h
  subst e
  have hf : E45.P.funcs[328]? = some Tryz.f328 := Tryz.func328
  have hn : (Tryz.f328.name == "runtime.NumGoroutine") = false := by kernel_rfl
  have hb : Tryz.f328.body.isNone = true := by kernel_rfl
  have hp : (program).run E45.P w = .ok E45.P w := rfl
  have hm : (mark (.extern 328)).run E45.P w = .ok () w := rfl
  simp only [callFunc, Sem.run_bind, hp, Result.andThen_ok, hf, hn, hb, if_true, Bool.false_eq_true, if_false, find45, find45', hm, Sem.run_pure]
theorem fits45 : Fits E45 := ⟨enter45, clone45, by kernel_rfl⟩
end
end Go.Abs
end
section
namespace Go.Proofs
open Go.RowKit Go.Bound
open Go.Abs (Made1 Made2 Stays)
set_option maxHeartbeats 1000000
set_option maxRecDepth 100000
def z377 : Value := .agg #[.bool false, .bool false, .int .u32 0, .int .i64 0, .int .i64 0, .int .u32 0, .int .i64 0, .int .u32 0, .int .i64 0, .int .u32 0, .int .i64 0, .int .u32 0, .bool false]
theorem info377 : (Tryz.prog.info? 377).map (fun i => (i.zero, i.size, i.bytes)) = some (some z377, 13, 88) := by kernel_rfl
def n377 (f : Int) : List Value := [.bool false, .bool false, .int .u32 f, .int .i64 0, .int .i64 0, .int .u32 0, .int .i64 0, .int .u32 0, .int .i64 0, .int .u32 0, .int .i64 0, .int .u32 0, .bool false]
theorem new_cells (w : World) (l : List Value) (T : TypeId) : ∀ (j : Nat) (u : Value), l[j]? = some u → (w.alloc (.cells l.toArray T)).cell? (Addr.add ⟨w.heap.size, 0, none⟩ j) = some u := by
  intro j u h
  have hb : (w.alloc (.cells l.toArray T)).heap[w.heap.size]? = some (.cells l.toArray T (0, 0)) := by show (w.heap.push _)[w.heap.size]? = _; simp
  have ha : Addr.add ⟨w.heap.size, 0, none⟩ j = ⟨w.heap.size, j, none⟩ := by cases j <;> simp [Addr.add]
  rw [ha]
  unfold World.cell?
  simp only [hb]
  simpa using h
theorem own_ne {w : World} {B : Nat} {e : TypeId} {size : Nat} {v : Value} {n : Nat} {xs : List Value} (h : w.ownsRow B e size v n xs) {c : Nat} (hc : c < B) : v.ownBlock ≠ some c := by
  rcases h.2 with ⟨rfl, _⟩ | ⟨g, cap, cur, rfl, hg, _⟩
  · simp [Value.ownBlock]
  · simp [Value.ownBlock]; omega
theorem own_slice {w : World} {B : Nat} {e : TypeId} {size : Nat} {v : Value} {n : Nat} {xs : List Value} (h : w.ownsRow B e size v n xs) : ∃ a l c, v = .slice a l c := by
  rcases h.2 with ⟨rfl, _⟩ | ⟨g, cap, cur, rfl, hg, _⟩
  · exact ⟨_, _, _, rfl⟩
  · exact ⟨_, _, _, rfl⟩
theorem own_ge {w : World} {B : Nat} {e : TypeId} {size : Nat} {v : Value} {n : Nat} {xs : List Value} (h : w.ownsRow B e size v n xs) {j : Nat} (hj : v.ownBlock = some j) {c : Nat} (hc : c ≤ B) : c ≤ j := by
  rcases h.2 with ⟨rfl, _⟩ | ⟨g, cap, cur, rfl, hg, _⟩
  · simp [Value.ownBlock] at hj
  · simp [Value.ownBlock] at hj; omega
theorem two_setCell {w : World} {b : Nat} {u v : Value} {t : TypeId} (h : w.heap[b]? = some (.cells #[u, v] t (0, 0))) (x : Value) : (w.setCell ⟨b, 1, none⟩ x).heap[b]? = some (.cells #[u, x] t (0, 0)) := by
  have hlt := lt_of_block h
  have h' : w.heap[b] = .cells #[u, v] t (0, 0) := by simpa [Array.getElem?_eq_getElem hlt] using h
  show (w.heap.modify b _)[b]? = _
  rw [Array.getElem?_eq_getElem (by simpa using hlt), Array.getElem_modify_self, h']
  rfl
theorem ref14New (n f : Int) (w : World) (h1 : 1 ≤ n) (h2 : n ≤ 256) (h3 : 1 ≤ f) (h4 : f ≤ 4294967295) : Calls Tryz.prog 92 #[.int .i64 n, .int .u32 f] w (Made2 w) := by
  obtain ⟨i0, hi, hz0, hz1, hz2⟩ := info_parts info377
  go_enter Tryz.func92, Tryz.ntmps92
  go_wp2
  go_loopw [7] (fun i wr => ∃ k : Nat, (k : Int) ≤ n ∧ i = .int .i64 k ∧ Below w.heap.size w wr ∧ ∃ v xs, wr.heap[w.heap.size]? = some (.cells #[.bool true, v] 374 (0, 0)) ∧ wr.ownsRow (w.heap.size + 1) 377 13 v k xs) (fun i _ => (n - intOf i).toNat)
  case atStart => exact ⟨0, by omega, rfl, (Below.refl _ _).alloc (Nat.le_refl _) _, .slice none 0 0, [], by show (w.heap.push _)[w.heap.size]? = _; simp, rfl, .inl ⟨rfl, rfl⟩⟩
  case round =>
    obtain ⟨k, hk, rfl, hb, v, xs, hblk, hown⟩ := hrel
    have hlt0 := lt_of_block hblk
    by_cases hlt : (k : Int) < n
    · have hc1 : wr.cell? ⟨w.heap.size, 1, none⟩ = some v := by simp [World.cell?, hblk]
      go_wp2_with (at_builtin; go_loud (refine wpList_append_own _ rfl _ _ 372 rfl (w.heap.size + 1) 377 i0 z377 13 88 Tryz.underlying372 hi hz0 hz1 hz2 rfl (by decide) _ _ _ rfl (hown.alloc _) ⟨wr.heap.size, 0, none⟩ 1 1 (n377 f) rfl rfl ?c1 ?c2 ?c3 ?c4 ?c5 ?_))
      case c1 => exact new_cells _ (n377 f) 377
      case c2 => exact List.all_eq_true.1 (show (n377 f).all (·.oneCell') = true from rfl)
      case c3 => unfold maxLen; omega
      case c4 => omega
      case c5 => simp; omega
      intro v' w1 hown' hgrow _
      obtain ⟨pa, pl, pc, rfl⟩ := own_slice hown'
      have hvb : v.ownBlock ≠ some w.heap.size := own_ne hown (Nat.lt_succ_self _)
      have hvb' : (Value.slice pa pl pc).ownBlock ≠ some w.heap.size := own_ne hown' (Nat.lt_succ_self _)
      have hblk1 : w1.heap[w.heap.size]? = some (.cells #[.bool true, v] 374 (0, 0)) := by
        rw [hgrow.block _ (by simp; omega) (fun e => hvb e.symm), Below.heap_alloc _ _ _ hlt0]; exact hblk
      have hc2 : w1.cell? ⟨w.heap.size, 1, none⟩ = some v := by simp [World.cell?, hblk1]
      have hf2 : w1.frozen? ⟨w.heap.size, 1, none⟩ = false := by simp [World.frozen?, hblk1]
      have hb1 : Below w.heap.size w w1 := (hb.alloc (by omega) _).grown hgrow (by simp; omega) (fun j e => own_ge hown e (by omega))
      have HB : Hid (Below w.heap.size w w1) := hb1
      have HO : Hid _ := hown'
      have HK : Hid _ := hblk1
      have HV : Hid _ := hvb'
      clear hb hb1 hown hown' hblk hblk1 hvb hvb' hgrow hc1 hlt0
      go_wp2
      go_roundw
      case rel => exact ⟨k + 1, by omega, by go_num, HB.out.setCell (Nat.le_refl _) _, .slice pa pl pc, _, two_setCell HK.out _, ownsRow_setCell_other HO.out HV.out _⟩
      case measure => simp [intOf]; omega
    · go_wp2
      exact bodyPost_ret (v := .tuple #[.pointer (some ⟨w.heap.size, 0, none⟩), .int .i64 0]) (by simp [results, Tryz.results92, go_sem]) rfl ⟨w.heap.size, 0, Nat.le_refl _, hlt0, rfl, hb.size, hb.block, hb.os, hb.output⟩
end Go.Proofs
end
section
namespace Go.Proofs
open Go.RowKit Go.Bound
open Go.Abs (Made1 Made2 Stays)
set_option maxHeartbeats 400000
set_option maxRecDepth 100000
theorem info3 : (Tryz.prog.info? 3).map (fun i => (i.zero, i.size, i.bytes)) = some (some (.int .i64 0), 1, 8) := by kernel_rfl
theorem ref15New (n : Nat) (w : World) (h1 : 1 ≤ n) (h2 : n ≤ 256) : Calls Tryz.prog 129 #[.int .i64 n] w (Made2 w) := by
  obtain ⟨i0, hi, hz0, hz1, hz2⟩ := info_parts info3
  go_enter Tryz.func129, Tryz.ntmps129
  go_wp2_with (at_make; go_loud (refine wpList_make_full _ rfl _ _ 62 rfl w.heap.size 3 i0 (.int .i64 0) 1 Tryz.underlying62 hi hz0 hz1 .i64 .i64 _ _ n rfl rfl rfl rfl ?c1 ?c2 ?c3 ?_))
  case c1 => rw [hz2]; omega
  case c2 => unfold maxLen; omega
  case c3 => exact Nat.le_refl _
  intro w1 _ hg
  go_wp2
  go_ret2
  exact ⟨_, 0, by have := hg.size; omega, by simp, rfl, by have := hg.size; simp; omega, fun B hB => by rw [Below.heap_alloc _ _ _ (by have := hg.size; omega)]; exact hg.block B hB (by simp), hg.os, hg.output⟩
end Go.Proofs
end
section
set_option linter.unusedVariables false
set_option maxRecDepth 100000
namespace Go.Abs
open Go.Proofs
theorem rule85 : CallOK E45 (rule true 85 [(.i64, 1, 256), (.u32, 1, 4294967295)]) := by
  refine rule_ok ⟨Tryz.f85, _, Tryz.func85, rfl⟩ fun vs h w => ?_
  cases h with | cons h1 h2 t => cases t with | cons h3 h4 t => cases t; exact slotsNew _ _ w h1 h2 h3 h4
theorem rule92 : CallOK E45 (rule true 92 [(.i64, 1, 256), (.u32, 1, 4294967295)]) := by
  refine rule_ok ⟨Tryz.f92, _, Tryz.func92, rfl⟩ fun vs h w => ?_
  cases h with | cons h1 h2 t => cases t with | cons h3 h4 t => cases t; exact ref14New _ _ w h1 h2 h3 h4
theorem rule129 : CallOK E45 (rule true 129 [(.i64, 1, 256)]) := by
  refine rule_ok ⟨Tryz.f129, _, Tryz.func129, rfl⟩ fun vs h w => ?_
  cases h with
  | @cons _ n _ _ h1 h2 t =>
    cases t
    have h1 : (1 : Int) ≤ n := h1
    have h2 : n ≤ (256 : Int) := h2
    obtain ⟨k, rfl⟩ := Int.eq_ofNat_of_zero_le (show (0 : Int) ≤ n by omega)
    exact ref15New k w (by omega) (by omega)
theorem tabS_ok : CallOK E45 tabS := orTab_ok rule85 (orTab_ok rule92 rule129)
theorem recS (n : Nat) : RecOK E45 (evQ V45 tabS n) := evQ_ok fits45 tabS_ok n
theorem globs1 : E45.P.globals.size = 1 := by kernel_rfl
theorem made2 {f : FuncId} {args : List Value} {n : Nat} (hr : isMade true ((evQ V45 tabS n).call f ⟨args⟩ (heap0 1)) = true) {args' : Array Value} (ha : LR (renG 1) args args'.toList) (w : World) : Calls Tryz.prog f args' w (Made2 w) := by
  have := made_calls (recS n) (two := true) (f := f) (args := args) (by rw [globs1]; exact hr) (args' := args') (by rw [globs1]; exact ha) w
  exact this
theorem made1 {f : FuncId} {args : List Value} {n : Nat} (hr : isMade false ((evQ V45 tabS n).call f ⟨args⟩ (heap0 1)) = true) {args' : Array Value} (ha : LR (renG 1) args args'.toList) (w : World) : Calls Tryz.prog f args' w (Made1 w) := by
  have := made_calls (recS n) (two := false) (f := f) (args := args) (by rw [globs1]; exact hr) (args' := args') (by rw [globs1]; exact ha) w
  exact this
/-- Four cases. -/
theorem four {P : Int → Prop} (h1 : P 1) (h2 : P 2) (h3 : P 3) (h4 : P 4) (m : Int) (a : 1 ≤ m) (b : m ≤ 4) : P m := by
  have : m = 1 ∨ m = 2 ∨ m = 3 ∨ m = 4 := by omega
  rcases this with rfl | rfl | rfl | rfl <;> assumption
theorem rI {ρ : Ren} {a b : Nat} {n : Int} (h1 : a ≤ n) (h2 : n ≤ b) : VR ρ (.complex .f32 a b) (.int .i64 n) := .rng .f32 ⟨h1, h2⟩
theorem rU {ρ : Ren} {a b : Nat} {n : Int} (h1 : a ≤ n) (h2 : n ≤ b) : VR ρ (.complex .f64 a b) (.int .u32 n) := .rng .f64 ⟨h1, h2⟩
theorem arenaNew1 (f o : Int) (w : World) (ho1 : 1 ≤ o) (ho2 : o ≤ 256) (hf1 : 1 ≤ f) (hf2 : f ≤ 4294967295) : Calls Tryz.prog 41 #[.int .i64 o, .int .i64 1, .int .u32 f] w (Made2 w) :=
  made2 e41_1 (.cons (rI ho1 ho2) (.cons (.int _ _) (.cons (rU hf1 hf2) .nil))) w
theorem arenaNew2 (f o : Int) (w : World) (ho1 : 1 ≤ o) (ho2 : o ≤ 256) (hf1 : 1 ≤ f) (hf2 : f ≤ 4294967295) : Calls Tryz.prog 41 #[.int .i64 o, .int .i64 2, .int .u32 f] w (Made2 w) :=
  made2 e41_2 (.cons (rI ho1 ho2) (.cons (.int _ _) (.cons (rU hf1 hf2) .nil))) w
theorem arenaNew3 (f o : Int) (w : World) (ho1 : 1 ≤ o) (ho2 : o ≤ 256) (hf1 : 1 ≤ f) (hf2 : f ≤ 4294967295) : Calls Tryz.prog 41 #[.int .i64 o, .int .i64 3, .int .u32 f] w (Made2 w) :=
  made2 e41_3 (.cons (rI ho1 ho2) (.cons (.int _ _) (.cons (rU hf1 hf2) .nil))) w
theorem arenaNew4 (f o : Int) (w : World) (ho1 : 1 ≤ o) (ho2 : o ≤ 256) (hf1 : 1 ≤ f) (hf2 : f ≤ 4294967295) : Calls Tryz.prog 41 #[.int .i64 o, .int .i64 4, .int .u32 f] w (Made2 w) :=
  made2 e41_4 (.cons (rI ho1 ho2) (.cons (.int _ _) (.cons (rU hf1 hf2) .nil))) w
theorem arenaNew (o m f : Int) (w : World) (ho1 : 1 ≤ o) (ho2 : o ≤ 256) (hf1 : 1 ≤ f) (hf2 : f ≤ 4294967295) (hm1 : 1 ≤ m) (hm2 : m ≤ 4) : Calls Tryz.prog 41 #[.int .i64 o, .int .i64 m, .int .u32 f] w (Made2 w) :=
  four (P := fun m => Calls Tryz.prog 41 #[.int .i64 o, .int .i64 m, .int .u32 f] w (Made2 w)) (arenaNew1 f o w ho1 ho2 hf1 hf2) (arenaNew2 f o w ho1 ho2 hf1 hf2) (arenaNew3 f o w ho1 ho2 hf1 hf2) (arenaNew4 f o w ho1 ho2 hf1 hf2) m hm1 hm2
theorem ref18New1 (f o : Int) (w : World) (ho1 : 1 ≤ o) (ho2 : o ≤ 256) (hf1 : 1 ≤ f) (hf2 : f ≤ 4294967295) : Calls Tryz.prog 49 #[.int .i64 o, .int .i64 1, .int .u32 f] w (Made2 w) :=
  made2 e49_1 (.cons (rI ho1 ho2) (.cons (.int _ _) (.cons (rU hf1 hf2) .nil))) w
theorem ref18New2 (f o : Int) (w : World) (ho1 : 1 ≤ o) (ho2 : o ≤ 256) (hf1 : 1 ≤ f) (hf2 : f ≤ 4294967295) : Calls Tryz.prog 49 #[.int .i64 o, .int .i64 2, .int .u32 f] w (Made2 w) :=
  made2 e49_2 (.cons (rI ho1 ho2) (.cons (.int _ _) (.cons (rU hf1 hf2) .nil))) w
theorem ref18New3 (f o : Int) (w : World) (ho1 : 1 ≤ o) (ho2 : o ≤ 256) (hf1 : 1 ≤ f) (hf2 : f ≤ 4294967295) : Calls Tryz.prog 49 #[.int .i64 o, .int .i64 3, .int .u32 f] w (Made2 w) :=
  made2 e49_3 (.cons (rI ho1 ho2) (.cons (.int _ _) (.cons (rU hf1 hf2) .nil))) w
theorem ref18New4 (f o : Int) (w : World) (ho1 : 1 ≤ o) (ho2 : o ≤ 256) (hf1 : 1 ≤ f) (hf2 : f ≤ 4294967295) : Calls Tryz.prog 49 #[.int .i64 o, .int .i64 4, .int .u32 f] w (Made2 w) :=
  made2 e49_4 (.cons (rI ho1 ho2) (.cons (.int _ _) (.cons (rU hf1 hf2) .nil))) w
theorem ref18New (o m f : Int) (w : World) (ho1 : 1 ≤ o) (ho2 : o ≤ 256) (hf1 : 1 ≤ f) (hf2 : f ≤ 4294967295) (hm1 : 1 ≤ m) (hm2 : m ≤ 4) : Calls Tryz.prog 49 #[.int .i64 o, .int .i64 m, .int .u32 f] w (Made2 w) :=
  four (P := fun m => Calls Tryz.prog 49 #[.int .i64 o, .int .i64 m, .int .u32 f] w (Made2 w)) (ref18New1 f o w ho1 ho2 hf1 hf2) (ref18New2 f o w ho1 ho2 hf1 hf2) (ref18New3 f o w ho1 ho2 hf1 hf2) (ref18New4 f o w ho1 ho2 hf1 hf2) m hm1 hm2
theorem cycleNew1 (o s b q qt ba bs cp f : Int) (w : World) (ho1 : 1 ≤ o) (ho2 : o ≤ 256) (hs1 : 1 ≤ s) (hs2 : s ≤ 64) (hb1 : 1 ≤ b) (hb2 : b ≤ 64) (hq1 : 1 ≤ q) (hq2 : q ≤ 64) (hqt1 : 1 ≤ qt) (hqt2 : qt ≤ 256) (hba1 : 1 ≤ ba) (hba2 : ba ≤ 64) (hbs1 : 1 ≤ bs) (hbs2 : bs ≤ 1048576) (hcp1 : 1 ≤ cp) (hcp2 : cp ≤ 1048576) (hf1 : 1 ≤ f) (hf2 : f ≤ 4294967295) : Calls Tryz.prog 42 #[.agg #[.int .i64 o, .int .i64 1, .int .i64 s, .int .i64 b, .int .i64 q, .int .i64 qt, .int .i64 ba, .int .i64 bs, .int .i64 cp, .int .u32 f]] w (Made2 w) :=
  made2 e42_1 (.cons (VR.of_agg (.cons (rI ho1 ho2) (.cons (.int _ _) (.cons (rI hs1 hs2) (.cons (rI hb1 hb2) (.cons (rI hq1 hq2) (.cons (rI hqt1 hqt2) (.cons (rI hba1 hba2) (.cons (rI hbs1 hbs2) (.cons (rI hcp1 hcp2) (.cons (rU hf1 hf2) .nil))))))))))) .nil) w
theorem cycleNew2 (o s b q qt ba bs cp f : Int) (w : World) (ho1 : 1 ≤ o) (ho2 : o ≤ 256) (hs1 : 1 ≤ s) (hs2 : s ≤ 64) (hb1 : 1 ≤ b) (hb2 : b ≤ 64) (hq1 : 1 ≤ q) (hq2 : q ≤ 64) (hqt1 : 1 ≤ qt) (hqt2 : qt ≤ 256) (hba1 : 1 ≤ ba) (hba2 : ba ≤ 64) (hbs1 : 1 ≤ bs) (hbs2 : bs ≤ 1048576) (hcp1 : 1 ≤ cp) (hcp2 : cp ≤ 1048576) (hf1 : 1 ≤ f) (hf2 : f ≤ 4294967295) : Calls Tryz.prog 42 #[.agg #[.int .i64 o, .int .i64 2, .int .i64 s, .int .i64 b, .int .i64 q, .int .i64 qt, .int .i64 ba, .int .i64 bs, .int .i64 cp, .int .u32 f]] w (Made2 w) :=
  made2 e42_2 (.cons (VR.of_agg (.cons (rI ho1 ho2) (.cons (.int _ _) (.cons (rI hs1 hs2) (.cons (rI hb1 hb2) (.cons (rI hq1 hq2) (.cons (rI hqt1 hqt2) (.cons (rI hba1 hba2) (.cons (rI hbs1 hbs2) (.cons (rI hcp1 hcp2) (.cons (rU hf1 hf2) .nil))))))))))) .nil) w
theorem cycleNew3 (o s b q qt ba bs cp f : Int) (w : World) (ho1 : 1 ≤ o) (ho2 : o ≤ 256) (hs1 : 1 ≤ s) (hs2 : s ≤ 64) (hb1 : 1 ≤ b) (hb2 : b ≤ 64) (hq1 : 1 ≤ q) (hq2 : q ≤ 64) (hqt1 : 1 ≤ qt) (hqt2 : qt ≤ 256) (hba1 : 1 ≤ ba) (hba2 : ba ≤ 64) (hbs1 : 1 ≤ bs) (hbs2 : bs ≤ 1048576) (hcp1 : 1 ≤ cp) (hcp2 : cp ≤ 1048576) (hf1 : 1 ≤ f) (hf2 : f ≤ 4294967295) : Calls Tryz.prog 42 #[.agg #[.int .i64 o, .int .i64 3, .int .i64 s, .int .i64 b, .int .i64 q, .int .i64 qt, .int .i64 ba, .int .i64 bs, .int .i64 cp, .int .u32 f]] w (Made2 w) :=
  made2 e42_3 (.cons (VR.of_agg (.cons (rI ho1 ho2) (.cons (.int _ _) (.cons (rI hs1 hs2) (.cons (rI hb1 hb2) (.cons (rI hq1 hq2) (.cons (rI hqt1 hqt2) (.cons (rI hba1 hba2) (.cons (rI hbs1 hbs2) (.cons (rI hcp1 hcp2) (.cons (rU hf1 hf2) .nil))))))))))) .nil) w
theorem cycleNew4 (o s b q qt ba bs cp f : Int) (w : World) (ho1 : 1 ≤ o) (ho2 : o ≤ 256) (hs1 : 1 ≤ s) (hs2 : s ≤ 64) (hb1 : 1 ≤ b) (hb2 : b ≤ 64) (hq1 : 1 ≤ q) (hq2 : q ≤ 64) (hqt1 : 1 ≤ qt) (hqt2 : qt ≤ 256) (hba1 : 1 ≤ ba) (hba2 : ba ≤ 64) (hbs1 : 1 ≤ bs) (hbs2 : bs ≤ 1048576) (hcp1 : 1 ≤ cp) (hcp2 : cp ≤ 1048576) (hf1 : 1 ≤ f) (hf2 : f ≤ 4294967295) : Calls Tryz.prog 42 #[.agg #[.int .i64 o, .int .i64 4, .int .i64 s, .int .i64 b, .int .i64 q, .int .i64 qt, .int .i64 ba, .int .i64 bs, .int .i64 cp, .int .u32 f]] w (Made2 w) :=
  made2 e42_4 (.cons (VR.of_agg (.cons (rI ho1 ho2) (.cons (.int _ _) (.cons (rI hs1 hs2) (.cons (rI hb1 hb2) (.cons (rI hq1 hq2) (.cons (rI hqt1 hqt2) (.cons (rI hba1 hba2) (.cons (rI hbs1 hbs2) (.cons (rI hcp1 hcp2) (.cons (rU hf1 hf2) .nil))))))))))) .nil) w
theorem cycleNew (o m s b q qt ba bs cp f : Int) (w : World) (ho1 : 1 ≤ o) (ho2 : o ≤ 256) (hs1 : 1 ≤ s) (hs2 : s ≤ 64) (hb1 : 1 ≤ b) (hb2 : b ≤ 64) (hq1 : 1 ≤ q) (hq2 : q ≤ 64) (hqt1 : 1 ≤ qt) (hqt2 : qt ≤ 256) (hba1 : 1 ≤ ba) (hba2 : ba ≤ 64) (hbs1 : 1 ≤ bs) (hbs2 : bs ≤ 1048576) (hcp1 : 1 ≤ cp) (hcp2 : cp ≤ 1048576) (hf1 : 1 ≤ f) (hf2 : f ≤ 4294967295) (hm1 : 1 ≤ m) (hm2 : m ≤ 4) : Calls Tryz.prog 42 #[.agg #[.int .i64 o, .int .i64 m, .int .i64 s, .int .i64 b, .int .i64 q, .int .i64 qt, .int .i64 ba, .int .i64 bs, .int .i64 cp, .int .u32 f]] w (Made2 w) :=
  four (P := fun m => Calls Tryz.prog 42 #[.agg #[.int .i64 o, .int .i64 m, .int .i64 s, .int .i64 b, .int .i64 q, .int .i64 qt, .int .i64 ba, .int .i64 bs, .int .i64 cp, .int .u32 f]] w (Made2 w)) (cycleNew1 o s b q qt ba bs cp f w ho1 ho2 hs1 hs2 hb1 hb2 hq1 hq2 hqt1 hqt2 hba1 hba2 hbs1 hbs2 hcp1 hcp2 hf1 hf2) (cycleNew2 o s b q qt ba bs cp f w ho1 ho2 hs1 hs2 hb1 hb2 hq1 hq2 hqt1 hqt2 hba1 hba2 hbs1 hbs2 hcp1 hcp2 hf1 hf2) (cycleNew3 o s b q qt ba bs cp f w ho1 ho2 hs1 hs2 hb1 hb2 hq1 hq2 hqt1 hqt2 hba1 hba2 hbs1 hbs2 hcp1 hcp2 hf1 hf2) (cycleNew4 o s b q qt ba bs cp f w ho1 ho2 hs1 hs2 hb1 hb2 hq1 hq2 hqt1 hqt2 hba1 hba2 hbs1 hbs2 hcp1 hcp2 hf1 hf2) m hm1 hm2
theorem ref26New1 (o s b q qt ba bs cp f : Int) (w : World) (ho1 : 1 ≤ o) (ho2 : o ≤ 256) (hs1 : 1 ≤ s) (hs2 : s ≤ 64) (hb1 : 1 ≤ b) (hb2 : b ≤ 64) (hq1 : 1 ≤ q) (hq2 : q ≤ 64) (hqt1 : 1 ≤ qt) (hqt2 : qt ≤ 256) (hba1 : 1 ≤ ba) (hba2 : ba ≤ 64) (hbs1 : 1 ≤ bs) (hbs2 : bs ≤ 1048576) (hcp1 : 1 ≤ cp) (hcp2 : cp ≤ 1048576) (hf1 : 1 ≤ f) (hf2 : f ≤ 4294967295) : Calls Tryz.prog 50 #[.agg #[.int .i64 o, .int .i64 1, .int .i64 s, .int .i64 b, .int .i64 q, .int .i64 qt, .int .i64 ba, .int .i64 bs, .int .i64 cp, .int .u32 f]] w (Made2 w) :=
  made2 e50_1 (.cons (VR.of_agg (.cons (rI ho1 ho2) (.cons (.int _ _) (.cons (rI hs1 hs2) (.cons (rI hb1 hb2) (.cons (rI hq1 hq2) (.cons (rI hqt1 hqt2) (.cons (rI hba1 hba2) (.cons (rI hbs1 hbs2) (.cons (rI hcp1 hcp2) (.cons (rU hf1 hf2) .nil))))))))))) .nil) w
theorem ref26New2 (o s b q qt ba bs cp f : Int) (w : World) (ho1 : 1 ≤ o) (ho2 : o ≤ 256) (hs1 : 1 ≤ s) (hs2 : s ≤ 64) (hb1 : 1 ≤ b) (hb2 : b ≤ 64) (hq1 : 1 ≤ q) (hq2 : q ≤ 64) (hqt1 : 1 ≤ qt) (hqt2 : qt ≤ 256) (hba1 : 1 ≤ ba) (hba2 : ba ≤ 64) (hbs1 : 1 ≤ bs) (hbs2 : bs ≤ 1048576) (hcp1 : 1 ≤ cp) (hcp2 : cp ≤ 1048576) (hf1 : 1 ≤ f) (hf2 : f ≤ 4294967295) : Calls Tryz.prog 50 #[.agg #[.int .i64 o, .int .i64 2, .int .i64 s, .int .i64 b, .int .i64 q, .int .i64 qt, .int .i64 ba, .int .i64 bs, .int .i64 cp, .int .u32 f]] w (Made2 w) :=
  made2 e50_2 (.cons (VR.of_agg (.cons (rI ho1 ho2) (.cons (.int _ _) (.cons (rI hs1 hs2) (.cons (rI hb1 hb2) (.cons (rI hq1 hq2) (.cons (rI hqt1 hqt2) (.cons (rI hba1 hba2) (.cons (rI hbs1 hbs2) (.cons (rI hcp1 hcp2) (.cons (rU hf1 hf2) .nil))))))))))) .nil) w
theorem ref26New3 (o s b q qt ba bs cp f : Int) (w : World) (ho1 : 1 ≤ o) (ho2 : o ≤ 256) (hs1 : 1 ≤ s) (hs2 : s ≤ 64) (hb1 : 1 ≤ b) (hb2 : b ≤ 64) (hq1 : 1 ≤ q) (hq2 : q ≤ 64) (hqt1 : 1 ≤ qt) (hqt2 : qt ≤ 256) (hba1 : 1 ≤ ba) (hba2 : ba ≤ 64) (hbs1 : 1 ≤ bs) (hbs2 : bs ≤ 1048576) (hcp1 : 1 ≤ cp) (hcp2 : cp ≤ 1048576) (hf1 : 1 ≤ f) (hf2 : f ≤ 4294967295) : Calls Tryz.prog 50 #[.agg #[.int .i64 o, .int .i64 3, .int .i64 s, .int .i64 b, .int .i64 q, .int .i64 qt, .int .i64 ba, .int .i64 bs, .int .i64 cp, .int .u32 f]] w (Made2 w) :=
  made2 e50_3 (.cons (VR.of_agg (.cons (rI ho1 ho2) (.cons (.int _ _) (.cons (rI hs1 hs2) (.cons (rI hb1 hb2) (.cons (rI hq1 hq2) (.cons (rI hqt1 hqt2) (.cons (rI hba1 hba2) (.cons (rI hbs1 hbs2) (.cons (rI hcp1 hcp2) (.cons (rU hf1 hf2) .nil))))))))))) .nil) w
theorem ref26New4 (o s b q qt ba bs cp f : Int) (w : World) (ho1 : 1 ≤ o) (ho2 : o ≤ 256) (hs1 : 1 ≤ s) (hs2 : s ≤ 64) (hb1 : 1 ≤ b) (hb2 : b ≤ 64) (hq1 : 1 ≤ q) (hq2 : q ≤ 64) (hqt1 : 1 ≤ qt) (hqt2 : qt ≤ 256) (hba1 : 1 ≤ ba) (hba2 : ba ≤ 64) (hbs1 : 1 ≤ bs) (hbs2 : bs ≤ 1048576) (hcp1 : 1 ≤ cp) (hcp2 : cp ≤ 1048576) (hf1 : 1 ≤ f) (hf2 : f ≤ 4294967295) : Calls Tryz.prog 50 #[.agg #[.int .i64 o, .int .i64 4, .int .i64 s, .int .i64 b, .int .i64 q, .int .i64 qt, .int .i64 ba, .int .i64 bs, .int .i64 cp, .int .u32 f]] w (Made2 w) :=
  made2 e50_4 (.cons (VR.of_agg (.cons (rI ho1 ho2) (.cons (.int _ _) (.cons (rI hs1 hs2) (.cons (rI hb1 hb2) (.cons (rI hq1 hq2) (.cons (rI hqt1 hqt2) (.cons (rI hba1 hba2) (.cons (rI hbs1 hbs2) (.cons (rI hcp1 hcp2) (.cons (rU hf1 hf2) .nil))))))))))) .nil) w
theorem ref26New (o m s b q qt ba bs cp f : Int) (w : World) (ho1 : 1 ≤ o) (ho2 : o ≤ 256) (hs1 : 1 ≤ s) (hs2 : s ≤ 64) (hb1 : 1 ≤ b) (hb2 : b ≤ 64) (hq1 : 1 ≤ q) (hq2 : q ≤ 64) (hqt1 : 1 ≤ qt) (hqt2 : qt ≤ 256) (hba1 : 1 ≤ ba) (hba2 : ba ≤ 64) (hbs1 : 1 ≤ bs) (hbs2 : bs ≤ 1048576) (hcp1 : 1 ≤ cp) (hcp2 : cp ≤ 1048576) (hf1 : 1 ≤ f) (hf2 : f ≤ 4294967295) (hm1 : 1 ≤ m) (hm2 : m ≤ 4) : Calls Tryz.prog 50 #[.agg #[.int .i64 o, .int .i64 m, .int .i64 s, .int .i64 b, .int .i64 q, .int .i64 qt, .int .i64 ba, .int .i64 bs, .int .i64 cp, .int .u32 f]] w (Made2 w) :=
  four (P := fun m => Calls Tryz.prog 50 #[.agg #[.int .i64 o, .int .i64 m, .int .i64 s, .int .i64 b, .int .i64 q, .int .i64 qt, .int .i64 ba, .int .i64 bs, .int .i64 cp, .int .u32 f]] w (Made2 w)) (ref26New1 o s b q qt ba bs cp f w ho1 ho2 hs1 hs2 hb1 hb2 hq1 hq2 hqt1 hqt2 hba1 hba2 hbs1 hbs2 hcp1 hcp2 hf1 hf2) (ref26New2 o s b q qt ba bs cp f w ho1 ho2 hs1 hs2 hb1 hb2 hq1 hq2 hqt1 hqt2 hba1 hba2 hbs1 hbs2 hcp1 hcp2 hf1 hf2) (ref26New3 o s b q qt ba bs cp f w ho1 ho2 hs1 hs2 hb1 hb2 hq1 hq2 hqt1 hqt2 hba1 hba2 hbs1 hbs2 hcp1 hcp2 hf1 hf2) (ref26New4 o s b q qt ba bs cp f w ho1 ho2 hs1 hs2 hb1 hb2 hq1 hq2 hqt1 hqt2 hba1 hba2 hbs1 hbs2 hcp1 hcp2 hf1 hf2) m hm1 hm2
theorem refqNew (q : Int) (w : World) (hq1 : 1 ≤ q) (hq2 : q ≤ 64) : Calls Tryz.prog 43 #[.int .i64 256, .int .i64 q] w (Made2 w) :=
  made2 e43 (.cons (.int _ _) (.cons (rI hq1 hq2) .nil)) w
theorem ref30New (q : Int) (w : World) (hq1 : 1 ≤ q) (hq2 : q ≤ 64) : Calls Tryz.prog 51 #[.int .i64 256, .int .i64 q] w (Made2 w) :=
  made2 e51 (.cons (.int _ _) (.cons (rI hq1 hq2) .nil)) w
theorem tableNew (f : Int) (w : World) (hf1 : 1 ≤ f) (hf2 : f ≤ 4294967295) : Calls Tryz.prog 44 #[.int .i64 256, .int .u32 f] w (Made2 w) :=
  made2 e44 (.cons (.int _ _) (.cons (rU hf1 hf2) .nil)) w
theorem ref32New (f : Int) (w : World) (hf1 : 1 ≤ f) (hf2 : f ≤ 4294967295) : Calls Tryz.prog 52 #[.int .i64 256, .int .u32 f] w (Made2 w) :=
  made2 e52 (.cons (.int _ _) (.cons (rU hf1 hf2) .nil)) w
theorem outerNew (f : Int) (w : World) (hf1 : 1 ≤ f) (hf2 : f ≤ 4294967295) : Calls Tryz.prog 45 #[.int .u32 f] w (Made2 w) :=
  made2 e45 (.cons (rU hf1 hf2) .nil) w
theorem ref12New (f : Int) (w : World) (hf1 : 1 ≤ f) (hf2 : f ≤ 4294967295) : Calls Tryz.prog 53 #[.int .u32 f] w (Made2 w) :=
  made2 e53 (.cons (rU hf1 hf2) .nil) w
theorem quotaNew (o : Int) (w : World) (ho1 : 1 ≤ o) (ho2 : o ≤ 256) : Calls Tryz.prog 46 #[.int .i64 o] w (Made2 w) :=
  made2 e46 (.cons (rI ho1 ho2) .nil) w
theorem ref35New (o : Int) (w : World) (ho1 : 1 ≤ o) (ho2 : o ≤ 256) : Calls Tryz.prog 54 #[.int .i64 o] w (Made2 w) :=
  made2 e54 (.cons (rI ho1 ho2) .nil) w
theorem leakNew (w : World) : Calls Tryz.prog 40 #[] w (Made1 w) :=
  made1 e40 .nil w
theorem ref36New (w : World) : Calls Tryz.prog 48 #[] w (Made1 w) :=
  made1 e48 .nil w
end Go.Abs
end
