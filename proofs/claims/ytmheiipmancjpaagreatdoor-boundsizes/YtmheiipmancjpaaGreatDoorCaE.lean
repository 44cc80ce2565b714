/- Proved here: registry.New, for every configuration. By an AI agent. -/
import Derived.Test.YtmheiipmancjpaaGreatDoorCaC
import Derived.Test.YtmheiipmancjpaaGreatDoorCaD
import Derived.Deep.DeepCutAuto
import Derived.Deep.RegionHeld3
set_option linter.unusedVariables false
set_option linter.unusedSimpArgs false
namespace Go.Proofs
open Go.RowKit Go.Bound
open Go.Abs (Made1 Made2 Stays)
set_option maxHeartbeats 1000000
set_option maxRecDepth 100000
theorem scell {w w1 : World} (h : Stays w w1) : (∀ b o, b < w.heap.size → w1.cell? ⟨b, o, none⟩ = w.cell? ⟨b, o, none⟩) ∧ (∀ b o, b < w.heap.size → w1.frozen? ⟨b, o, none⟩ = w.frozen? ⟨b, o, none⟩) :=
  ⟨fun b o hb => World.cell?_of_block (h.2 b hb), fun b o hb => World.frozen?_of_block (h.2 b hb)⟩
theorem Stays.refl (w : World) : Stays w w := ⟨Nat.le_refl _, fun _ _ => rfl, rfl, rfl⟩
theorem Stays.trans {a b c : World} (h : Stays a b) (k : Stays b c) : Stays a c := ⟨Nat.le_trans h.1 k.1, fun B hB => (k.2 B (Nat.lt_of_lt_of_le hB h.1)).trans (h.2 B hB), k.3.trans h.3, k.4.trans h.4⟩
theorem Stays.of_below {w w' : World} (h : Below w.heap.size w w') : Stays w w' := ⟨h.size, h.block, h.os, h.output⟩
theorem keep10 {W W' : World} (hs : Stays W W') {B : Nat} (hB : B < W.heap.size) {v0 v1 v2 v3 v4 v5 v6 v7 v8 v9 : Value} (c0 : W.cell? ⟨B, 0, none⟩ = some v0) (c1 : W.cell? ⟨B, 1, none⟩ = some v1) (c2 : W.cell? ⟨B, 2, none⟩ = some v2) (c3 : W.cell? ⟨B, 3, none⟩ = some v3) (c4 : W.cell? ⟨B, 4, none⟩ = some v4) (c5 : W.cell? ⟨B, 5, none⟩ = some v5) (c6 : W.cell? ⟨B, 6, none⟩ = some v6) (c7 : W.cell? ⟨B, 7, none⟩ = some v7) (c8 : W.cell? ⟨B, 8, none⟩ = some v8) (c9 : W.cell? ⟨B, 9, none⟩ = some v9) : W'.cell? ⟨B, 0, none⟩ = some v0 ∧ W'.cell? ⟨B, 1, none⟩ = some v1 ∧ W'.cell? ⟨B, 2, none⟩ = some v2 ∧ W'.cell? ⟨B, 3, none⟩ = some v3 ∧ W'.cell? ⟨B, 4, none⟩ = some v4 ∧ W'.cell? ⟨B, 5, none⟩ = some v5 ∧ W'.cell? ⟨B, 6, none⟩ = some v6 ∧ W'.cell? ⟨B, 7, none⟩ = some v7 ∧ W'.cell? ⟨B, 8, none⟩ = some v8 ∧ W'.cell? ⟨B, 9, none⟩ = some v9 := by
  have h := (scell hs).1 B
  simp only [h _ hB]
  exact ⟨c0, c1, c2, c3, c4, c5, c6, c7, c8, c9⟩
theorem registryNew_no (o m s b q qt ba bs cp f : Int) (w : World) (hv : validB o m s b q qt ba bs cp f = false) :
    Calls Tryz.prog 28 #[.agg #[.int .i64 o, .int .i64 m, .int .i64 s, .int .i64 b, .int .i64 q, .int .i64 qt, .int .i64 ba, .int .i64 bs, .int .i64 cp, .int .u32 f]] w fun e w' => e = .returned (.tuple #[.pointer none, .int .i64 2]) ∧ Below w.heap.size w w' := by
  go_enter Tryz.func28, Tryz.ntmps28
  go_wp2_with (go_at_call 39; refine (allowed_any _ _ _ _ _ _ _ _ _ _ _).mono ?_; rintro e w1 ⟨rfl, hb⟩)
  go_ret2
  exact ⟨rfl, ((Below.refl _ _).alloc (Nat.le_refl _) _).trans (hb.mono (by simp))⟩
/-- What holds while a registry is filled: the configuration lies at B, the registry at r, the errors at E. -/
structure RInv (T n : Nat) (w1 : World) (B r E : Nat) (v0 v1 v2 v3 v4 v5 v6 v7 v8 v9 : Value) (wx : World) : Prop where
  st : Stays w1 wx
  blk : Blk wx r T n
  err : wx.heap[E]? = some (.cells #[.int .i64 0, .int .i64 0, .int .i64 0, .int .i64 0, .int .i64 0, .int .i64 0] 99 (0, 0))
  hB : B < w1.heap.size
  hr : w1.heap.size ≤ r
  hE : w1.heap.size ≤ E
  ne : r ≠ E
  c : wx.cell? ⟨B, 0, none⟩ = some v0 ∧ wx.cell? ⟨B, 1, none⟩ = some v1 ∧ wx.cell? ⟨B, 2, none⟩ = some v2 ∧ wx.cell? ⟨B, 3, none⟩ = some v3 ∧ wx.cell? ⟨B, 4, none⟩ = some v4 ∧ wx.cell? ⟨B, 5, none⟩ = some v5 ∧ wx.cell? ⟨B, 6, none⟩ = some v6 ∧ wx.cell? ⟨B, 7, none⟩ = some v7 ∧ wx.cell? ⟨B, 8, none⟩ = some v8 ∧ wx.cell? ⟨B, 9, none⟩ = some v9
theorem RInv.step {T n : Nat} {w1 : World} {B r E : Nat} {v0 v1 v2 v3 v4 v5 v6 v7 v8 v9 : Value} {wx : World} (I : RInv T n w1 B r E v0 v1 v2 v3 v4 v5 v6 v7 v8 v9 wx) {w2 : World} (hs : Stays wx w2) (off k : Nat) (v : Value) :
    RInv T n w1 B r E v0 v1 v2 v3 v4 v5 v6 v7 v8 v9 ((w2.setCell ⟨r, off, none⟩ v).setCell ⟨E, k, none⟩ (.int .i64 0)) := by
  have hE2 : w2.heap[E]? = some (.cells #[.int .i64 0, .int .i64 0, .int .i64 0, .int .i64 0, .int .i64 0, .int .i64 0] 99 (0, 0)) := by rw [hs.2 _ (lt_of_block I.err)]; exact I.err
  have hr2 : Blk w2 r T n := by
    obtain ⟨arr, h1, h2⟩ := I.blk
    exact ⟨arr, by rw [hs.2 _ (lt_of_block h1)]; exact h1, h2⟩
  have hBr : B ≠ r := by have := I.hB; have := I.hr; omega
  have hBE : B ≠ E := by have := I.hB; have := I.hE; omega
  have hst : Stays w1 w2 := Stays.trans I.st hs
  have hset : Stays w1 ((w2.setCell ⟨r, off, none⟩ v).setCell ⟨E, k, none⟩ (.int .i64 0)) := by
    refine ⟨by simp; exact hst.1, fun C hC => ?_, hst.3, hst.4⟩
    rw [Below.heap_setCell _ _ _ _ (by have := I.hE; show C ≠ E; omega), Below.heap_setCell _ _ _ _ (by have := I.hr; show C ≠ r; omega)]
    exact hst.2 C hC
  refine ⟨hset, (hr2.set _ _ _).set _ _ _, ?_, I.hB, I.hr, I.hE, I.ne, ?_⟩
  · have h1 : (w2.setCell ⟨r, off, none⟩ v).heap[E]? = some (.cells #[.int .i64 0, .int .i64 0, .int .i64 0, .int .i64 0, .int .i64 0, .int .i64 0] 99 (0, 0)) := by
      rw [Below.heap_setCell _ _ _ _ (by show E ≠ r; exact fun e => I.ne e.symm)]; exact hE2
    have hlt := lt_of_block h1
    have h' : (w2.setCell ⟨r, off, none⟩ v).heap[E] = .cells #[.int .i64 0, .int .i64 0, .int .i64 0, .int .i64 0, .int .i64 0, .int .i64 0] 99 (0, 0) := by simpa [Array.getElem?_eq_getElem hlt] using h1
    show (Array.modify _ E _)[E]? = _
    rw [Array.getElem?_eq_getElem (by simpa using hlt), Array.getElem_modify_self, h']
    show some (Obj.cells (Array.setIfInBounds #[.int .i64 0, .int .i64 0, .int .i64 0, .int .i64 0, .int .i64 0, .int .i64 0] k (.int .i64 0)) 99 (0, 0)) = _
    match k with
    | 0 => rfl
    | 1 => rfl
    | 2 => rfl
    | 3 => rfl
    | 4 => rfl
    | 5 => rfl
    | k + 6 => rfl
  · have hc : ∀ j, ((w2.setCell ⟨r, off, none⟩ v).setCell ⟨E, k, none⟩ (.int .i64 0)).cell? ⟨B, j, none⟩ = wx.cell? ⟨B, j, none⟩ := fun j => by
      refine (World.cell?_of_block (a := ⟨B, j, none⟩) ?_)
      show ((w2.setCell ⟨r, off, none⟩ v).setCell ⟨E, k, none⟩ (.int .i64 0)).heap[B]? = wx.heap[B]?
      rw [Below.heap_setCell _ _ _ _ (by exact hBE), Below.heap_setCell _ _ _ _ (by exact hBr)]
      exact hs.2 B (by have := I.hB; have := I.st.1; omega)
    simp only [hc]
    exact I.c
theorem Blk.stays {w w' : World} {b T n : Nat} (h : Blk w b T n) (hs : Stays w w') : Blk w' b T n := by
  obtain ⟨arr, h1, h2⟩ := h
  exact ⟨arr, by rw [hs.2 _ (lt_of_block h1)]; exact h1, h2⟩
theorem stay_block {w w' : World} {b : Nat} {o : Obj} (h : w.heap[b]? = some o) (hs : Stays w w') : w'.heap[b]? = some o := by rw [hs.2 _ (lt_of_block h)]; exact h
theorem errCell {w : World} {E : Nat} (h : w.heap[E]? = some (.cells #[.int .i64 0, .int .i64 0, .int .i64 0, .int .i64 0, .int .i64 0, .int .i64 0] 99 (0, 0))) (k : Nat) (hk : k < 6) : w.cell? ⟨E, k, none⟩ = some (.int .i64 0) ∧ w.frozen? ⟨E, k, none⟩ = false := by
  refine ⟨?_, by simp [World.frozen?, h]⟩
  unfold World.cell?
  simp only [h]
  match k, hk with
  | 0, _ => rfl
  | 1, _ => rfl
  | 2, _ => rfl
  | 3, _ => rfl
  | 4, _ => rfl
  | 5, _ => rfl
theorem registryNew_yes (o m s b q qt ba bs cp f : Int) (w : World) (ho1 : 1 ≤ o) (ho2 : o ≤ 256) (hm1 : 1 ≤ m) (hm2 : m ≤ 4) (hs1 : 1 ≤ s) (hs2 : s ≤ 64) (hb1 : 1 ≤ b) (hb2 : b ≤ 64) (hq1 : 1 ≤ q) (hq2 : q ≤ 64) (hqt1 : 1 ≤ qt) (hqt2 : qt ≤ 256) (hba1 : 1 ≤ ba) (hba2 : ba ≤ 64) (hbs1 : 1 ≤ bs) (hbs2 : bs ≤ 1048576) (hcp1 : 1 ≤ cp) (hcp2 : cp ≤ 1048576) (hf1 : 1 ≤ f) (hf2 : f ≤ 4294967295) (hv : validB o m s b q qt ba bs cp f = true) :
    Calls Tryz.prog 28 #[.agg #[.int .i64 o, .int .i64 m, .int .i64 s, .int .i64 b, .int .i64 q, .int .i64 qt, .int .i64 ba, .int .i64 bs, .int .i64 cp, .int .u32 f]] w (Made2 w) := by
  go_enter Tryz.func28, Tryz.ntmps28
  go_wp2_with (go_at_call 39; refine (allowed_any _ _ _ _ _ _ _ _ _ _ _).mono ?_; rintro e w1 ⟨rfl, hb⟩)
  have hcf : w1.cell? ⟨w.heap.size, 0, none⟩ = some (.int .i64 o) ∧ w1.cell? ⟨w.heap.size, 1, none⟩ = some (.int .i64 m) ∧ w1.cell? ⟨w.heap.size, 2, none⟩ = some (.int .i64 s) ∧ w1.cell? ⟨w.heap.size, 3, none⟩ = some (.int .i64 b) ∧ w1.cell? ⟨w.heap.size, 4, none⟩ = some (.int .i64 q) ∧ w1.cell? ⟨w.heap.size, 5, none⟩ = some (.int .i64 qt) ∧ w1.cell? ⟨w.heap.size, 6, none⟩ = some (.int .i64 ba) ∧ w1.cell? ⟨w.heap.size, 7, none⟩ = some (.int .i64 bs) ∧ w1.cell? ⟨w.heap.size, 8, none⟩ = some (.int .i64 cp) ∧ w1.cell? ⟨w.heap.size, 9, none⟩ = some (.int .u32 f) := by
    have h0 : ∀ j, w1.cell? ⟨w.heap.size, j, none⟩ = (w.alloc (.cells #[.int .i64 o, .int .i64 m, .int .i64 s, .int .i64 b, .int .i64 q, .int .i64 qt, .int .i64 ba, .int .i64 bs, .int .i64 cp, .int .u32 f] 26)).cell? ⟨w.heap.size, j, none⟩ := fun j => hb.cell (p := ⟨w.heap.size, j, none⟩) (by simp)
    have hw : (w.alloc (.cells #[.int .i64 o, .int .i64 m, .int .i64 s, .int .i64 b, .int .i64 q, .int .i64 qt, .int .i64 ba, .int .i64 bs, .int .i64 cp, .int .u32 f] 26)).heap[w.heap.size]? = some (.cells #[.int .i64 o, .int .i64 m, .int .i64 s, .int .i64 b, .int .i64 q, .int .i64 qt, .int .i64 ba, .int .i64 bs, .int .i64 cp, .int .u32 f] 26 (0, 0)) := by show (w.heap.push _)[w.heap.size]? = _; simp
    simp only [h0]
    simp only [World.cell?, hw]
    simp
  obtain ⟨c0, c1, c2, c3, c4, c5, c6, c7, c8, c9⟩ := hcf
  have hz1 : w.heap.size < w1.heap.size := by have := hb.size; simp at this; omega
  go_cut [4] (fun s4 wx => ∃ r, s4 = .pointer (some ⟨r, 0, none⟩) ∧ w1.heap.size ≤ r ∧ Blk wx r 98 17 ∧ Stays w1 wx)
  case first =>
    go_region_held3 (fun w' => w'.cell? ⟨w.heap.size, 0, none⟩ = some (.int .i64 o) ∧ w'.cell? ⟨w.heap.size, 1, none⟩ = some (.int .i64 m) ∧ w'.cell? ⟨w.heap.size, 2, none⟩ = some (.int .i64 s) ∧ w'.cell? ⟨w.heap.size, 3, none⟩ = some (.int .i64 b) ∧ w'.cell? ⟨w.heap.size, 4, none⟩ = some (.int .i64 q) ∧ w'.cell? ⟨w.heap.size, 5, none⟩ = some (.int .i64 qt) ∧ w'.cell? ⟨w.heap.size, 6, none⟩ = some (.int .i64 ba) ∧ w'.cell? ⟨w.heap.size, 7, none⟩ = some (.int .i64 bs) ∧ w'.cell? ⟨w.heap.size, 8, none⟩ = some (.int .i64 cp) ∧ w'.cell? ⟨w.heap.size, 9, none⟩ = some (.int .u32 f)) (go_keep)
      (first
        | (go_at_call 40; refine (Go.Abs.leakNew _).mono ?_; rintro e w' ⟨bk, ok, hk1, hk2, rfl, hk⟩; obtain ⟨e0, e1, e2, e3, e4, e5, e6, e7, e8, e9⟩ := keep10 hk (B := w.heap.size) (by simp; omega) (by assumption) (by assumption) (by assumption) (by assumption) (by assumption) (by assumption) (by assumption) (by assumption) (by assumption) (by assumption)))
    have hq : w1.heap.size ≤ w'.heap.size := hk.1
    all_goals (go_wp2_with fail; go_meet; exact ⟨_, rfl, hq, Blk.new _ _ _ _ (by first | rfl | (simp; done) | kernel_rfl), Stays.trans (Stays.trans (Go.Abs.stays_drew w1) hk) ⟨by simp, fun B hB => Below.heap_alloc _ _ _ (by omega), rfl, rfl⟩⟩)
  case rest =>
    obtain ⟨r, rfl, hr, hblk, hst⟩ := hcut
    have hK := keep10 hst (B := w.heap.size) hz1 c0 c1 c2 c3 c4 c5 c6 c7 c8 c9
    clear c0 c1 c2 c3 c4 c5 c6 c7 c8 c9
    have hK : Hid _ := hK
    go_upto_region 4 with fail
    go_cut [5] (fun s5 wx => ∃ E, s5 = .pointer (some ⟨E, 0, none⟩) ∧ RInv 98 17 w1 w.heap.size r E (.int .i64 o) (.int .i64 m) (.int .i64 s) (.int .i64 b) (.int .i64 q) (.int .i64 qt) (.int .i64 ba) (.int .i64 bs) (.int .i64 cp) (.int .u32 f) wx)
    case first =>
      go_wp2_with fail
      go_meet
      refine ⟨_, rfl, Stays.trans hst ⟨by simp, fun B hB => Below.heap_alloc _ _ _ hB, rfl, rfl⟩, ?_, by show (Array.push _ _)[_]? = _; simp, hz1, hr, hst.1, by have := hblk.lt; omega, ?_⟩
      · obtain ⟨arr, b1, b2⟩ := hblk
        exact ⟨arr, by rw [Below.heap_alloc _ _ _ (lt_of_block b1)]; exact b1, b2⟩
      · exact keep10 (W := wc) ⟨by simp, fun B hB => Below.heap_alloc _ _ _ hB, rfl, rfl⟩ (by have := hst.1; omega) hK.out.1 hK.out.2.1 hK.out.2.2.1 hK.out.2.2.2.1 hK.out.2.2.2.2.1 hK.out.2.2.2.2.2.1 hK.out.2.2.2.2.2.2.1 hK.out.2.2.2.2.2.2.2.1 hK.out.2.2.2.2.2.2.2.2.1 hK.out.2.2.2.2.2.2.2.2.2
    case rest =>
    obtain ⟨E, rfl, I⟩ := hcut
    clear hblk hst hK
    have I : Hid (RInv 98 17 w1 w.heap.size r E (.int .i64 o) (.int .i64 m) (.int .i64 s) (.int .i64 b) (.int .i64 q) (.int .i64 qt) (.int .i64 ba) (.int .i64 bs) (.int .i64 cp) (.int .u32 f) wc) := I
    go_upto_region 5 with fail
    go_cut [5] (fun s5 wx => s5 = .pointer (some ⟨E, 0, none⟩) ∧ RInv 98 17 w1 w.heap.size r E (.int .i64 o) (.int .i64 m) (.int .i64 s) (.int .i64 b) (.int .i64 q) (.int .i64 qt) (.int .i64 ba) (.int .i64 bs) (.int .i64 cp) (.int .u32 f) wx)
    case first =>
      obtain ⟨c0, c1, c2, c3, c4, c5, c6, c7, c8, c9⟩ := I.out.c
      have hne1 : r ≠ E := I.out.ne
      have hne2 : E ≠ r := fun e => I.out.ne e.symm
      go_wp2_with (go_at_call 41; go_must (refine (Go.Abs.arenaNew o m f _ ho1 ho2 hf1 hf2 hm1 hm2).mono ?_); rintro e w2 ⟨p, po, hp1, hp2, rfl, hs⟩; obtain ⟨v, hv0⟩ := (Blk.stays I.out.blk hs).at (o := 0) (by omega); have hf0 := (Blk.stays I.out.blk hs).free 0; obtain ⟨he0, he1⟩ := errCell (stay_block I.out.err hs) 0 (by omega) ; have HS : Hid _ := hs; clear hs)
      go_meet
      exact ⟨rfl, RInv.step I.out HS.out 0 0 _⟩
    case rest =>
    obtain ⟨rfl, I⟩ := hcut
    have I : Hid (RInv 98 17 w1 w.heap.size r E (.int .i64 o) (.int .i64 m) (.int .i64 s) (.int .i64 b) (.int .i64 q) (.int .i64 qt) (.int .i64 ba) (.int .i64 bs) (.int .i64 cp) (.int .u32 f) wc) := I
    go_upto_region 6 with fail
    go_cut [5] (fun s5 wx => s5 = .pointer (some ⟨E, 0, none⟩) ∧ RInv 98 17 w1 w.heap.size r E (.int .i64 o) (.int .i64 m) (.int .i64 s) (.int .i64 b) (.int .i64 q) (.int .i64 qt) (.int .i64 ba) (.int .i64 bs) (.int .i64 cp) (.int .u32 f) wx)
    case first =>
      obtain ⟨c0, c1, c2, c3, c4, c5, c6, c7, c8, c9⟩ := I.out.c
      have hne1 : r ≠ E := I.out.ne
      have hne2 : E ≠ r := fun e => I.out.ne e.symm
      go_wp2_with (go_at_call 42; go_must (refine (Go.Abs.cycleNew o m s b q qt ba bs cp f _ ho1 ho2 hs1 hs2 hb1 hb2 hq1 hq2 hqt1 hqt2 hba1 hba2 hbs1 hbs2 hcp1 hcp2 hf1 hf2 hm1 hm2).mono ?_); rintro e w2 ⟨p, po, hp1, hp2, rfl, hs⟩; obtain ⟨v, hv0⟩ := (Blk.stays I.out.blk hs).at (o := 1) (by omega); have hf0 := (Blk.stays I.out.blk hs).free 1; obtain ⟨he0, he1⟩ := errCell (stay_block I.out.err hs) 1 (by omega) ; have HS : Hid _ := hs; clear hs)
      go_meet
      exact ⟨rfl, RInv.step I.out HS.out 1 1 _⟩
    case rest =>
    obtain ⟨rfl, I⟩ := hcut
    have I : Hid (RInv 98 17 w1 w.heap.size r E (.int .i64 o) (.int .i64 m) (.int .i64 s) (.int .i64 b) (.int .i64 q) (.int .i64 qt) (.int .i64 ba) (.int .i64 bs) (.int .i64 cp) (.int .u32 f) wc) := I
    go_upto_region 7 with fail
    go_cut [5] (fun s5 wx => s5 = .pointer (some ⟨E, 0, none⟩) ∧ RInv 98 17 w1 w.heap.size r E (.int .i64 o) (.int .i64 m) (.int .i64 s) (.int .i64 b) (.int .i64 q) (.int .i64 qt) (.int .i64 ba) (.int .i64 bs) (.int .i64 cp) (.int .u32 f) wx)
    case first =>
      obtain ⟨c0, c1, c2, c3, c4, c5, c6, c7, c8, c9⟩ := I.out.c
      have hne1 : r ≠ E := I.out.ne
      have hne2 : E ≠ r := fun e => I.out.ne e.symm
      go_wp2_with (go_at_call 43; go_must (refine (Go.Abs.refqNew q _ hq1 hq2).mono ?_); rintro e w2 ⟨p, po, hp1, hp2, rfl, hs⟩; obtain ⟨v, hv0⟩ := (Blk.stays I.out.blk hs).at (o := 2) (by omega); have hf0 := (Blk.stays I.out.blk hs).free 2; obtain ⟨he0, he1⟩ := errCell (stay_block I.out.err hs) 2 (by omega) ; have HS : Hid _ := hs; clear hs)
      go_meet
      exact ⟨rfl, RInv.step I.out HS.out 2 2 _⟩
    case rest =>
    obtain ⟨rfl, I⟩ := hcut
    have I : Hid (RInv 98 17 w1 w.heap.size r E (.int .i64 o) (.int .i64 m) (.int .i64 s) (.int .i64 b) (.int .i64 q) (.int .i64 qt) (.int .i64 ba) (.int .i64 bs) (.int .i64 cp) (.int .u32 f) wc) := I
    go_upto_region 8 with fail
    go_cut [5] (fun s5 wx => s5 = .pointer (some ⟨E, 0, none⟩) ∧ RInv 98 17 w1 w.heap.size r E (.int .i64 o) (.int .i64 m) (.int .i64 s) (.int .i64 b) (.int .i64 q) (.int .i64 qt) (.int .i64 ba) (.int .i64 bs) (.int .i64 cp) (.int .u32 f) wx)
    case first =>
      obtain ⟨c0, c1, c2, c3, c4, c5, c6, c7, c8, c9⟩ := I.out.c
      have hne1 : r ≠ E := I.out.ne
      have hne2 : E ≠ r := fun e => I.out.ne e.symm
      go_wp2_with (go_at_call 44; go_must (refine (Go.Abs.tableNew f _ hf1 hf2).mono ?_); rintro e w2 ⟨p, po, hp1, hp2, rfl, hs⟩; obtain ⟨v, hv0⟩ := (Blk.stays I.out.blk hs).at (o := 13) (by omega); have hf0 := (Blk.stays I.out.blk hs).free 13; obtain ⟨he0, he1⟩ := errCell (stay_block I.out.err hs) 3 (by omega) ; have HS : Hid _ := hs; clear hs)
      go_meet
      exact ⟨rfl, RInv.step I.out HS.out 13 3 _⟩
    case rest =>
    obtain ⟨rfl, I⟩ := hcut
    have I : Hid (RInv 98 17 w1 w.heap.size r E (.int .i64 o) (.int .i64 m) (.int .i64 s) (.int .i64 b) (.int .i64 q) (.int .i64 qt) (.int .i64 ba) (.int .i64 bs) (.int .i64 cp) (.int .u32 f) wc) := I
    go_upto_region 9 with fail
    go_cut [5] (fun s5 wx => s5 = .pointer (some ⟨E, 0, none⟩) ∧ RInv 98 17 w1 w.heap.size r E (.int .i64 o) (.int .i64 m) (.int .i64 s) (.int .i64 b) (.int .i64 q) (.int .i64 qt) (.int .i64 ba) (.int .i64 bs) (.int .i64 cp) (.int .u32 f) wx)
    case first =>
      obtain ⟨c0, c1, c2, c3, c4, c5, c6, c7, c8, c9⟩ := I.out.c
      have hne1 : r ≠ E := I.out.ne
      have hne2 : E ≠ r := fun e => I.out.ne e.symm
      go_wp2_with (go_at_call 45; go_must (refine (Go.Abs.outerNew f _ hf1 hf2).mono ?_); rintro e w2 ⟨p, po, hp1, hp2, rfl, hs⟩; obtain ⟨v, hv0⟩ := (Blk.stays I.out.blk hs).at (o := 14) (by omega); have hf0 := (Blk.stays I.out.blk hs).free 14; obtain ⟨he0, he1⟩ := errCell (stay_block I.out.err hs) 4 (by omega) ; have HS : Hid _ := hs; clear hs)
      go_meet
      exact ⟨rfl, RInv.step I.out HS.out 14 4 _⟩
    case rest =>
    obtain ⟨rfl, I⟩ := hcut
    have I : Hid (RInv 98 17 w1 w.heap.size r E (.int .i64 o) (.int .i64 m) (.int .i64 s) (.int .i64 b) (.int .i64 q) (.int .i64 qt) (.int .i64 ba) (.int .i64 bs) (.int .i64 cp) (.int .u32 f) wc) := I
    go_upto_region 10 with fail
    go_cut [5] (fun s5 wx => s5 = .pointer (some ⟨E, 0, none⟩) ∧ RInv 98 17 w1 w.heap.size r E (.int .i64 o) (.int .i64 m) (.int .i64 s) (.int .i64 b) (.int .i64 q) (.int .i64 qt) (.int .i64 ba) (.int .i64 bs) (.int .i64 cp) (.int .u32 f) wx)
    case first =>
      obtain ⟨c0, c1, c2, c3, c4, c5, c6, c7, c8, c9⟩ := I.out.c
      have hne1 : r ≠ E := I.out.ne
      have hne2 : E ≠ r := fun e => I.out.ne e.symm
      go_wp2_with (go_at_call 46; go_must (refine (Go.Abs.quotaNew qt _ hqt1 hqt2).mono ?_); rintro e w2 ⟨p, po, hp1, hp2, rfl, hs⟩; obtain ⟨v, hv0⟩ := (Blk.stays I.out.blk hs).at (o := 15) (by omega); have hf0 := (Blk.stays I.out.blk hs).free 15; obtain ⟨he0, he1⟩ := errCell (stay_block I.out.err hs) 5 (by omega) ; have HS : Hid _ := hs; clear hs)
      go_meet
      exact ⟨rfl, RInv.step I.out HS.out 15 5 _⟩
    case rest =>
    obtain ⟨rfl, I⟩ := hcut
    obtain ⟨a0, b0⟩ := errCell I.err 0 (by omega)
    obtain ⟨a1, b1⟩ := errCell I.err 1 (by omega)
    obtain ⟨a2, b2⟩ := errCell I.err 2 (by omega)
    obtain ⟨a3, b3⟩ := errCell I.err 3 (by omega)
    obtain ⟨a4, b4⟩ := errCell I.err 4 (by omega)
    obtain ⟨a5, b5⟩ := errCell I.err 5 (by omega)
    have hlt := I.blk.lt
    have hst := I.st
    have hS : Hid (Stays w wc) := Stays.trans (Stays.trans ⟨by simp, fun B hB => Below.heap_alloc _ _ _ hB, rfl, rfl⟩ (Stays.of_below hb)) hst
    have hrr := I.hr
    have heq : ∀ w : World, Sem.run Tryz.prog (Op.equalIn 10000 99 (.agg #[.int .i64 0, .int .i64 0, .int .i64 0, .int .i64 0, .int .i64 0, .int .i64 0]) (.agg #[.int .i64 0, .int .i64 0, .int .i64 0, .int .i64 0, .int .i64 0, .int .i64 0])) w = .ok true w := fun _ => by kernel_rfl
    clear I hst hb
    go_wp2
    go_ret2
    exact ⟨r, 0, by omega, hlt, rfl, hS.out⟩
end Go.Proofs
