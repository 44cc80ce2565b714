/- Proved here: machine.Check and the document's Check, for every configuration. By an AI agent. -/
import Derived.Test.YtmheiipmancjpaaGreatDoorCaF
set_option linter.unusedVariables false
set_option linter.unusedSimpArgs false
set_option linter.unusedVariables false
namespace Go.Proofs
open Go.RowKit Go.Bound
open Go.Abs (Made1 Made2 Stays)
set_option maxHeartbeats 1000000
set_option maxRecDepth 100000
structure QInv (T n : Nat) (w1 : World) (B r : Nat) (v0 v1 v2 v3 v4 v5 v6 v7 v8 v9 : Value) (wx : World) : Prop where
  st : Stays w1 wx
  blk : Blk wx r T n
  hB : B < w1.heap.size
  hr : w1.heap.size ≤ r
  c : wx.cell? ⟨B, 0, none⟩ = some v0 ∧ wx.cell? ⟨B, 1, none⟩ = some v1 ∧ wx.cell? ⟨B, 2, none⟩ = some v2 ∧ wx.cell? ⟨B, 3, none⟩ = some v3 ∧ wx.cell? ⟨B, 4, none⟩ = some v4 ∧ wx.cell? ⟨B, 5, none⟩ = some v5 ∧ wx.cell? ⟨B, 6, none⟩ = some v6 ∧ wx.cell? ⟨B, 7, none⟩ = some v7 ∧ wx.cell? ⟨B, 8, none⟩ = some v8 ∧ wx.cell? ⟨B, 9, none⟩ = some v9
theorem QInv.step {T n : Nat} {w1 : World} {B r : Nat} {v0 v1 v2 v3 v4 v5 v6 v7 v8 v9 : Value} {wx : World} (I : QInv T n w1 B r v0 v1 v2 v3 v4 v5 v6 v7 v8 v9 wx) {w2 : World} (hs : Stays wx w2) (off : Nat) (v : Value) :
    QInv T n w1 B r v0 v1 v2 v3 v4 v5 v6 v7 v8 v9 (w2.setCell ⟨r, off, none⟩ v) := by
  have hr2 : Blk w2 r T n := Blk.stays I.blk hs
  have hBr : B ≠ r := by have := I.hB; have := I.hr; omega
  have hst : Stays w1 w2 := Stays.trans I.st hs
  have hset : Stays w1 (w2.setCell ⟨r, off, none⟩ v) := by
    refine ⟨by simp; exact hst.1, fun C hC => ?_, hst.3, hst.4⟩
    rw [Below.heap_setCell _ _ _ _ (by have := I.hr; show C ≠ r; omega)]
    exact hst.2 C hC
  refine ⟨hset, hr2.set _ _ _, I.hB, I.hr, ?_⟩
  have hc : ∀ j, (w2.setCell ⟨r, off, none⟩ v).cell? ⟨B, j, none⟩ = wx.cell? ⟨B, j, none⟩ := fun j => by
    refine (World.cell?_of_block (a := ⟨B, j, none⟩) ?_)
    show (w2.setCell ⟨r, off, none⟩ v).heap[B]? = wx.heap[B]?
    rw [Below.heap_setCell _ _ _ _ (by exact hBr)]
    exact hs.2 B (by have := I.hB; have := I.st.1; omega)
  simp only [hc]
  exact I.c
theorem ref38New_no (o m s b q qt ba bs cp f : Int) (w : World) (hv : validB o m s b q qt ba bs cp f = false) :
    Calls Tryz.prog 29 #[.agg #[.int .i64 o, .int .i64 m, .int .i64 s, .int .i64 b, .int .i64 q, .int .i64 qt, .int .i64 ba, .int .i64 bs, .int .i64 cp, .int .u32 f]] w fun e w' => e = .returned (.tuple #[.pointer none, .int .i64 2]) ∧ Below w.heap.size w w' := by
  go_enter Tryz.func29, Tryz.ntmps29
  go_wp2_with (go_at_call 47; refine (r47_any _ _ _ _ _ _ _ _ _ _ _).mono ?_; rintro e w1 ⟨rfl, hb⟩)
  go_ret2
  exact ⟨rfl, ((Below.refl _ _).alloc (Nat.le_refl _) _).trans (hb.mono (by simp))⟩
theorem ref38New_yes (o m s b q qt ba bs cp f : Int) (w : World) (ho1 : 1 ≤ o) (ho2 : o ≤ 256) (hm1 : 1 ≤ m) (hm2 : m ≤ 4) (hs1 : 1 ≤ s) (hs2 : s ≤ 64) (hb1 : 1 ≤ b) (hb2 : b ≤ 64) (hq1 : 1 ≤ q) (hq2 : q ≤ 64) (hqt1 : 1 ≤ qt) (hqt2 : qt ≤ 256) (hba1 : 1 ≤ ba) (hba2 : ba ≤ 64) (hbs1 : 1 ≤ bs) (hbs2 : bs ≤ 1048576) (hcp1 : 1 ≤ cp) (hcp2 : cp ≤ 1048576) (hf1 : 1 ≤ f) (hf2 : f ≤ 4294967295) (hv : validB o m s b q qt ba bs cp f = true) :
    Calls Tryz.prog 29 #[.agg #[.int .i64 o, .int .i64 m, .int .i64 s, .int .i64 b, .int .i64 q, .int .i64 qt, .int .i64 ba, .int .i64 bs, .int .i64 cp, .int .u32 f]] w (Made2 w) := by
  go_enter Tryz.func29, Tryz.ntmps29
  go_wp2_with (go_at_call 47; refine (r47_any _ _ _ _ _ _ _ _ _ _ _).mono ?_; rintro e w1 ⟨rfl, hb⟩)
  have hcf : w1.cell? ⟨w.heap.size, 0, none⟩ = some (.int .i64 o) ∧ w1.cell? ⟨w.heap.size, 1, none⟩ = some (.int .i64 m) ∧ w1.cell? ⟨w.heap.size, 2, none⟩ = some (.int .i64 s) ∧ w1.cell? ⟨w.heap.size, 3, none⟩ = some (.int .i64 b) ∧ w1.cell? ⟨w.heap.size, 4, none⟩ = some (.int .i64 q) ∧ w1.cell? ⟨w.heap.size, 5, none⟩ = some (.int .i64 qt) ∧ w1.cell? ⟨w.heap.size, 6, none⟩ = some (.int .i64 ba) ∧ w1.cell? ⟨w.heap.size, 7, none⟩ = some (.int .i64 bs) ∧ w1.cell? ⟨w.heap.size, 8, none⟩ = some (.int .i64 cp) ∧ w1.cell? ⟨w.heap.size, 9, none⟩ = some (.int .u32 f) := by
    have h0 : ∀ j, w1.cell? ⟨w.heap.size, j, none⟩ = (w.alloc (.cells #[.int .i64 o, .int .i64 m, .int .i64 s, .int .i64 b, .int .i64 q, .int .i64 qt, .int .i64 ba, .int .i64 bs, .int .i64 cp, .int .u32 f] 26)).cell? ⟨w.heap.size, j, none⟩ := fun j => hb.cell (p := ⟨w.heap.size, j, none⟩) (by simp)
    have hw : (w.alloc (.cells #[.int .i64 o, .int .i64 m, .int .i64 s, .int .i64 b, .int .i64 q, .int .i64 qt, .int .i64 ba, .int .i64 bs, .int .i64 cp, .int .u32 f] 26)).heap[w.heap.size]? = some (.cells #[.int .i64 o, .int .i64 m, .int .i64 s, .int .i64 b, .int .i64 q, .int .i64 qt, .int .i64 ba, .int .i64 bs, .int .i64 cp, .int .u32 f] 26 (0, 0)) := by show (w.heap.push _)[w.heap.size]? = _; simp
    simp only [h0]
    simp only [World.cell?, hw]
    simp
  obtain ⟨c0, c1, c2, c3, c4, c5, c6, c7, c8, c9⟩ := hcf
  have hz1 : w.heap.size < w1.heap.size := by have := hb.size; simp at this; omega
  go_cut [4] (fun s4 wx => ∃ r, s4 = .pointer (some ⟨r, 0, none⟩) ∧ QInv 121 18 w1 w.heap.size r (.int .i64 o) (.int .i64 m) (.int .i64 s) (.int .i64 b) (.int .i64 q) (.int .i64 qt) (.int .i64 ba) (.int .i64 bs) (.int .i64 cp) (.int .u32 f) wx)
  case first =>
    go_region_held3 (fun w' => w'.cell? ⟨w.heap.size, 0, none⟩ = some (.int .i64 o) ∧ w'.cell? ⟨w.heap.size, 1, none⟩ = some (.int .i64 m) ∧ w'.cell? ⟨w.heap.size, 2, none⟩ = some (.int .i64 s) ∧ w'.cell? ⟨w.heap.size, 3, none⟩ = some (.int .i64 b) ∧ w'.cell? ⟨w.heap.size, 4, none⟩ = some (.int .i64 q) ∧ w'.cell? ⟨w.heap.size, 5, none⟩ = some (.int .i64 qt) ∧ w'.cell? ⟨w.heap.size, 6, none⟩ = some (.int .i64 ba) ∧ w'.cell? ⟨w.heap.size, 7, none⟩ = some (.int .i64 bs) ∧ w'.cell? ⟨w.heap.size, 8, none⟩ = some (.int .i64 cp) ∧ w'.cell? ⟨w.heap.size, 9, none⟩ = some (.int .u32 f)) (go_keep)
      (first
        | (go_at_call 48; refine (Go.Abs.ref36New _).mono ?_; rintro e w' ⟨bk, ok, hk1, hk2, rfl, hk⟩; obtain ⟨e0, e1, e2, e3, e4, e5, e6, e7, e8, e9⟩ := keep10 hk (B := w.heap.size) (by simp; omega) (by assumption) (by assumption) (by assumption) (by assumption) (by assumption) (by assumption) (by assumption) (by assumption) (by assumption) (by assumption)))
    have hq : w1.heap.size ≤ w'.heap.size := hk.1
    all_goals (go_wp2_with fail; go_meet; exact ⟨_, rfl, Stays.trans (Stays.trans (Go.Abs.stays_drew w1) hk) ⟨by simp, fun B hB => Below.heap_alloc _ _ _ (by omega), rfl, rfl⟩, Blk.new _ _ _ _ (by first | rfl | (simp; done) | kernel_rfl), hz1, hq, keep10 (W := w') ⟨by simp, fun B hB => Below.heap_alloc _ _ _ (by omega), rfl, rfl⟩ (by omega) e0 e1 e2 e3 e4 e5 e6 e7 e8 e9⟩)
  case rest =>
    obtain ⟨r, rfl, I⟩ := hcut
    clear c0 c1 c2 c3 c4 c5 c6 c7 c8 c9
    have I : Hid (QInv 121 18 w1 w.heap.size r (.int .i64 o) (.int .i64 m) (.int .i64 s) (.int .i64 b) (.int .i64 q) (.int .i64 qt) (.int .i64 ba) (.int .i64 bs) (.int .i64 cp) (.int .u32 f) wc) := I
    go_upto_region 4 with fail
    go_cut [4] (fun s4 wx => s4 = .pointer (some ⟨r, 0, none⟩) ∧ QInv 121 18 w1 w.heap.size r (.int .i64 o) (.int .i64 m) (.int .i64 s) (.int .i64 b) (.int .i64 q) (.int .i64 qt) (.int .i64 ba) (.int .i64 bs) (.int .i64 cp) (.int .u32 f) wx)
    case first =>
      obtain ⟨c0, c1, c2, c3, c4, c5, c6, c7, c8, c9⟩ := I.out.c
      go_wp2_with (go_at_call 49; go_must (refine (Go.Abs.ref18New o m f _ ho1 ho2 hf1 hf2 hm1 hm2).mono ?_); rintro e w2 ⟨p, po, hp1, hp2, rfl, hs⟩; obtain ⟨v, hv0⟩ := (Blk.stays I.out.blk hs).at (o := 11) (by omega); have hf0 := (Blk.stays I.out.blk hs).free 11; have HS : Hid _ := hs; clear hs)
      go_meet
      exact ⟨rfl, QInv.step I.out HS.out 11 _⟩
    case rest =>
    obtain ⟨rfl, I⟩ := hcut
    have I : Hid (QInv 121 18 w1 w.heap.size r (.int .i64 o) (.int .i64 m) (.int .i64 s) (.int .i64 b) (.int .i64 q) (.int .i64 qt) (.int .i64 ba) (.int .i64 bs) (.int .i64 cp) (.int .u32 f) wc) := I
    go_upto_region 5 with fail
    go_cut [4] (fun s4 wx => s4 = .pointer (some ⟨r, 0, none⟩) ∧ QInv 121 18 w1 w.heap.size r (.int .i64 o) (.int .i64 m) (.int .i64 s) (.int .i64 b) (.int .i64 q) (.int .i64 qt) (.int .i64 ba) (.int .i64 bs) (.int .i64 cp) (.int .u32 f) wx)
    case first =>
      obtain ⟨c0, c1, c2, c3, c4, c5, c6, c7, c8, c9⟩ := I.out.c
      go_wp2_with (go_at_call 50; go_must (refine (Go.Abs.ref26New o m s b q qt ba bs cp f _ ho1 ho2 hs1 hs2 hb1 hb2 hq1 hq2 hqt1 hqt2 hba1 hba2 hbs1 hbs2 hcp1 hcp2 hf1 hf2 hm1 hm2).mono ?_); rintro e w2 ⟨p, po, hp1, hp2, rfl, hs⟩; obtain ⟨v, hv0⟩ := (Blk.stays I.out.blk hs).at (o := 12) (by omega); have hf0 := (Blk.stays I.out.blk hs).free 12; have HS : Hid _ := hs; clear hs)
      go_meet
      exact ⟨rfl, QInv.step I.out HS.out 12 _⟩
    case rest =>
    obtain ⟨rfl, I⟩ := hcut
    have I : Hid (QInv 121 18 w1 w.heap.size r (.int .i64 o) (.int .i64 m) (.int .i64 s) (.int .i64 b) (.int .i64 q) (.int .i64 qt) (.int .i64 ba) (.int .i64 bs) (.int .i64 cp) (.int .u32 f) wc) := I
    go_upto_region 6 with fail
    go_cut [4] (fun s4 wx => s4 = .pointer (some ⟨r, 0, none⟩) ∧ QInv 121 18 w1 w.heap.size r (.int .i64 o) (.int .i64 m) (.int .i64 s) (.int .i64 b) (.int .i64 q) (.int .i64 qt) (.int .i64 ba) (.int .i64 bs) (.int .i64 cp) (.int .u32 f) wx)
    case first =>
      obtain ⟨c0, c1, c2, c3, c4, c5, c6, c7, c8, c9⟩ := I.out.c
      go_wp2_with (go_at_call 51; go_must (refine (Go.Abs.ref30New q _ hq1 hq2).mono ?_); rintro e w2 ⟨p, po, hp1, hp2, rfl, hs⟩; obtain ⟨v, hv0⟩ := (Blk.stays I.out.blk hs).at (o := 13) (by omega); have hf0 := (Blk.stays I.out.blk hs).free 13; have HS : Hid _ := hs; clear hs)
      go_meet
      exact ⟨rfl, QInv.step I.out HS.out 13 _⟩
    case rest =>
    obtain ⟨rfl, I⟩ := hcut
    have I : Hid (QInv 121 18 w1 w.heap.size r (.int .i64 o) (.int .i64 m) (.int .i64 s) (.int .i64 b) (.int .i64 q) (.int .i64 qt) (.int .i64 ba) (.int .i64 bs) (.int .i64 cp) (.int .u32 f) wc) := I
    go_upto_region 7 with fail
    go_cut [4] (fun s4 wx => s4 = .pointer (some ⟨r, 0, none⟩) ∧ QInv 121 18 w1 w.heap.size r (.int .i64 o) (.int .i64 m) (.int .i64 s) (.int .i64 b) (.int .i64 q) (.int .i64 qt) (.int .i64 ba) (.int .i64 bs) (.int .i64 cp) (.int .u32 f) wx)
    case first =>
      obtain ⟨c0, c1, c2, c3, c4, c5, c6, c7, c8, c9⟩ := I.out.c
      go_wp2_with (go_at_call 52; go_must (refine (Go.Abs.ref32New f _ hf1 hf2).mono ?_); rintro e w2 ⟨p, po, hp1, hp2, rfl, hs⟩; obtain ⟨v, hv0⟩ := (Blk.stays I.out.blk hs).at (o := 14) (by omega); have hf0 := (Blk.stays I.out.blk hs).free 14; have HS : Hid _ := hs; clear hs)
      go_meet
      exact ⟨rfl, QInv.step I.out HS.out 14 _⟩
    case rest =>
    obtain ⟨rfl, I⟩ := hcut
    have I : Hid (QInv 121 18 w1 w.heap.size r (.int .i64 o) (.int .i64 m) (.int .i64 s) (.int .i64 b) (.int .i64 q) (.int .i64 qt) (.int .i64 ba) (.int .i64 bs) (.int .i64 cp) (.int .u32 f) wc) := I
    go_upto_region 8 with fail
    go_cut [4] (fun s4 wx => s4 = .pointer (some ⟨r, 0, none⟩) ∧ QInv 121 18 w1 w.heap.size r (.int .i64 o) (.int .i64 m) (.int .i64 s) (.int .i64 b) (.int .i64 q) (.int .i64 qt) (.int .i64 ba) (.int .i64 bs) (.int .i64 cp) (.int .u32 f) wx)
    case first =>
      obtain ⟨c0, c1, c2, c3, c4, c5, c6, c7, c8, c9⟩ := I.out.c
      go_wp2_with (go_at_call 53; go_must (refine (Go.Abs.ref12New f _ hf1 hf2).mono ?_); rintro e w2 ⟨p, po, hp1, hp2, rfl, hs⟩; obtain ⟨v, hv0⟩ := (Blk.stays I.out.blk hs).at (o := 15) (by omega); have hf0 := (Blk.stays I.out.blk hs).free 15; have HS : Hid _ := hs; clear hs)
      go_meet
      exact ⟨rfl, QInv.step I.out HS.out 15 _⟩
    case rest =>
    obtain ⟨rfl, I⟩ := hcut
    have I : Hid (QInv 121 18 w1 w.heap.size r (.int .i64 o) (.int .i64 m) (.int .i64 s) (.int .i64 b) (.int .i64 q) (.int .i64 qt) (.int .i64 ba) (.int .i64 bs) (.int .i64 cp) (.int .u32 f) wc) := I
    go_upto_region 9 with fail
    go_cut [4] (fun s4 wx => s4 = .pointer (some ⟨r, 0, none⟩) ∧ QInv 121 18 w1 w.heap.size r (.int .i64 o) (.int .i64 m) (.int .i64 s) (.int .i64 b) (.int .i64 q) (.int .i64 qt) (.int .i64 ba) (.int .i64 bs) (.int .i64 cp) (.int .u32 f) wx)
    case first =>
      obtain ⟨c0, c1, c2, c3, c4, c5, c6, c7, c8, c9⟩ := I.out.c
      go_wp2_with (go_at_call 54; go_must (refine (Go.Abs.ref35New qt _ hqt1 hqt2).mono ?_); rintro e w2 ⟨p, po, hp1, hp2, rfl, hs⟩; obtain ⟨v, hv0⟩ := (Blk.stays I.out.blk hs).at (o := 16) (by omega); have hf0 := (Blk.stays I.out.blk hs).free 16; have HS : Hid _ := hs; clear hs)
      go_meet
      exact ⟨rfl, QInv.step I.out HS.out 16 _⟩
    case rest =>
    obtain ⟨rfl, I⟩ := hcut
    have hlt := I.blk.lt
    have hst := I.st
    have hS : Hid (Stays w wc) := Stays.trans (Stays.trans ⟨by simp, fun B hB => Below.heap_alloc _ _ _ hB, rfl, rfl⟩ (Stays.of_below hb)) hst
    have hrr := I.hr
    clear I hst hb
    go_wp2
    go_ret2
    exact ⟨r, 0, by omega, hlt, rfl, hS.out⟩
/-- What Check says of a configuration. -/
def cfgE (o m s b q qt ba bs cp f : Int) : Int := if validB o m s b q qt ba bs cp f = true then 0 else 2
theorem validB_bounds (o m s b q qt ba bs cp f : Int) (h : validB o m s b q qt ba bs cp f = true) (hf : f ≤ 4294967295) : (1 ≤ o ∧ o ≤ 256) ∧ (1 ≤ m ∧ m ≤ 4) ∧ (1 ≤ s ∧ s ≤ 64) ∧ (1 ≤ b ∧ b ≤ 64) ∧ (1 ≤ q ∧ q ≤ 64) ∧ (1 ≤ qt ∧ qt ≤ 256) ∧ (1 ≤ ba ∧ ba ≤ 64) ∧ (1 ≤ bs ∧ bs ≤ 1048576) ∧ (1 ≤ cp ∧ cp ≤ 1048576) ∧ 1 ≤ f ∧ f ≤ 4294967295 := by
  simp only [validB, inB, backB, Bool.and_eq_true, decide_eq_true_eq] at h
  omega

theorem machineCheck (o m s b q qt ba bs cp f : Int) (w : World) (hf : f ≤ 4294967295) :
    Calls Tryz.prog 17 #[.agg #[.int .i64 o, .int .i64 m, .int .i64 s, .int .i64 b, .int .i64 q, .int .i64 qt, .int .i64 ba, .int .i64 bs, .int .i64 cp, .int .u32 f]] w fun e w' => e = .returned (.int .i64 (cfgE o m s b q qt ba bs cp f)) ∧ Stays w w' := by
  cases hv : validB o m s b q qt ba bs cp f with
  | true =>
    have he : cfgE o m s b q qt ba bs cp f = 0 := by simp [cfgE, hv]
    obtain ⟨⟨ho1, ho2⟩, ⟨hm1, hm2⟩, ⟨hs1, hs2⟩, ⟨hb1, hb2⟩, ⟨hq1, hq2⟩, ⟨hqt1, hqt2⟩, ⟨hba1, hba2⟩, ⟨hbs1, hbs2⟩, ⟨hcp1, hcp2⟩, hf1, hf2⟩ := validB_bounds _ _ _ _ _ _ _ _ _ _ hv hf
    rw [he]; clear he
    have H : ∀ W, Calls Tryz.prog 28 #[.agg #[.int .i64 o, .int .i64 m, .int .i64 s, .int .i64 b, .int .i64 q, .int .i64 qt, .int .i64 ba, .int .i64 bs, .int .i64 cp, .int .u32 f]] W (Made2 W) := fun W => registryNew_yes o m s b q qt ba bs cp f W ho1 ho2 hm1 hm2 hs1 hs2 hb1 hb2 hq1 hq2 hqt1 hqt2 hba1 hba2 hbs1 hbs2 hcp1 hcp2 hf1 hf2 hv
    have H : Hid _ := H
    clear ho1 ho2 hm1 hm2 hs1 hs2 hb1 hb2 hq1 hq2 hqt1 hqt2 hba1 hba2 hbs1 hbs2 hcp1 hcp2 hf1 hf2 hv hf
    go_enter Tryz.func17, Tryz.ntmps17
    go_wp2_with (go_at_call 28; refine (H.out _).mono ?_; rintro e w1 ⟨bk, ok, hk1, hk2, rfl, hk⟩)
    go_ret
    exact ⟨rfl, Stays.trans ⟨by simp, fun B hB => Below.heap_alloc _ _ _ hB, rfl, rfl⟩ hk⟩
  | false =>
    have he : cfgE o m s b q qt ba bs cp f = 2 := by simp [cfgE, hv]
    rw [he]; clear he
    go_enter Tryz.func17, Tryz.ntmps17
    go_wp2_with (go_at_call 28; refine (registryNew_no _ _ _ _ _ _ _ _ _ _ _ hv).mono ?_; rintro e w1 ⟨rfl, hb⟩)
    go_ret
    exact ⟨rfl, Stays.trans ⟨by simp, fun B hB => Below.heap_alloc _ _ _ hB, rfl, rfl⟩ (Stays.of_below hb)⟩
theorem ref40Check (o m s b q qt ba bs cp f : Int) (w : World) (hf : f ≤ 4294967295) :
    Calls Tryz.prog 18 #[.agg #[.int .i64 o, .int .i64 m, .int .i64 s, .int .i64 b, .int .i64 q, .int .i64 qt, .int .i64 ba, .int .i64 bs, .int .i64 cp, .int .u32 f]] w fun e w' => e = .returned (.int .i64 (cfgE o m s b q qt ba bs cp f)) ∧ Stays w w' := by
  cases hv : validB o m s b q qt ba bs cp f with
  | true =>
    have he : cfgE o m s b q qt ba bs cp f = 0 := by simp [cfgE, hv]
    obtain ⟨⟨ho1, ho2⟩, ⟨hm1, hm2⟩, ⟨hs1, hs2⟩, ⟨hb1, hb2⟩, ⟨hq1, hq2⟩, ⟨hqt1, hqt2⟩, ⟨hba1, hba2⟩, ⟨hbs1, hbs2⟩, ⟨hcp1, hcp2⟩, hf1, hf2⟩ := validB_bounds _ _ _ _ _ _ _ _ _ _ hv hf
    rw [he]; clear he
    have H : ∀ W, Calls Tryz.prog 29 #[.agg #[.int .i64 o, .int .i64 m, .int .i64 s, .int .i64 b, .int .i64 q, .int .i64 qt, .int .i64 ba, .int .i64 bs, .int .i64 cp, .int .u32 f]] W (Made2 W) := fun W => ref38New_yes o m s b q qt ba bs cp f W ho1 ho2 hm1 hm2 hs1 hs2 hb1 hb2 hq1 hq2 hqt1 hqt2 hba1 hba2 hbs1 hbs2 hcp1 hcp2 hf1 hf2 hv
    have H : Hid _ := H
    clear ho1 ho2 hm1 hm2 hs1 hs2 hb1 hb2 hq1 hq2 hqt1 hqt2 hba1 hba2 hbs1 hbs2 hcp1 hcp2 hf1 hf2 hv hf
    go_enter Tryz.func18, Tryz.ntmps18
    go_wp2_with (go_at_call 29; refine (H.out _).mono ?_; rintro e w1 ⟨bk, ok, hk1, hk2, rfl, hk⟩)
    go_ret
    exact ⟨rfl, Stays.trans ⟨by simp, fun B hB => Below.heap_alloc _ _ _ hB, rfl, rfl⟩ hk⟩
  | false =>
    have he : cfgE o m s b q qt ba bs cp f = 2 := by simp [cfgE, hv]
    rw [he]; clear he
    go_enter Tryz.func18, Tryz.ntmps18
    go_wp2_with (go_at_call 29; refine (ref38New_no _ _ _ _ _ _ _ _ _ _ _ hv).mono ?_; rintro e w1 ⟨rfl, hb⟩)
    go_ret
    exact ⟨rfl, Stays.trans ⟨by simp, fun B hB => Below.heap_alloc _ _ _ hB, rfl, rfl⟩ (Stays.of_below hb)⟩
end Go.Proofs
