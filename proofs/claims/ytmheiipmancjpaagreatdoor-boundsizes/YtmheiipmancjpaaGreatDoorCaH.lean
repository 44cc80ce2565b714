/- Proved here: bound.Check and the document's, for every size. By an AI agent. -/
import Derived.Test.YtmheiipmancjpaaGreatDoorCaG
set_option linter.unusedVariables false
set_option linter.unusedSimpArgs false
section
set_option linter.unusedVariables false
namespace Go.Proofs
open Go.RowKit Go.Bound
open Go.Abs (Made1 Made2 Stays)
set_option maxHeartbeats 1000000
set_option maxRecDepth 100000
def inL (n l h : Int) : Bool := decide (l ≤ n) && decide (n ≤ h)
def sizeB (o m q b d r c : Int) : Bool := inL o 1 256 && inL m 1 4 && inL q 1 64 && inL b 1 64 && inL d 1 2000 && inL r 0 2000 && inL c 1 1048576
def sizeE (o m q b d r c : Int) : Int := if sizeB o m q b d r c = true then 0 else 2
def spans (o m q b d r c : Int) : Array Value := #[.int .i64 o, .int .i64 1, .int .i64 256, .int .i64 m, .int .i64 1, .int .i64 4, .int .i64 q, .int .i64 1, .int .i64 64, .int .i64 b, .int .i64 1, .int .i64 64, .int .i64 d, .int .i64 1, .int .i64 2000, .int .i64 r, .int .i64 0, .int .i64 2000, .int .i64 c, .int .i64 1, .int .i64 1048576]
def nK (o m q b d r c : Int) : Nat → Int | 0 => o | 1 => m | 2 => q | 3 => b | 4 => d | 5 => r | _ => c
def lK : Nat → Int | 5 => 0 | _ => 1
def hK : Nat → Int | 0 => 256 | 1 => 4 | 2 => 64 | 3 => 64 | 4 => 2000 | 5 => 2000 | _ => 1048576
theorem spans_at (o m q b d r c : Int) : ∀ k, k < 7 → (spans o m q b d r c)[k * 3]? = some (.int .i64 (nK o m q b d r c k)) ∧ (spans o m q b d r c)[k * 3 + 1]? = some (.int .i64 (lK k)) ∧ (spans o m q b d r c)[k * 3 + 2]? = some (.int .i64 (hK k)) := by
  intro k hk
  match k, hk with
  | 0, _ => exact ⟨rfl, rfl, rfl⟩
  | 1, _ => exact ⟨rfl, rfl, rfl⟩
  | 2, _ => exact ⟨rfl, rfl, rfl⟩
  | 3, _ => exact ⟨rfl, rfl, rfl⟩
  | 4, _ => exact ⟨rfl, rfl, rfl⟩
  | 5, _ => exact ⟨rfl, rfl, rfl⟩
  | 6, _ => exact ⟨rfl, rfl, rfl⟩
theorem sizeE_no (o m q b d r c : Int) (k : Nat) (hk : k < 7) (h : ¬ (lK k ≤ nK o m q b d r c k ∧ nK o m q b d r c k ≤ hK k)) : sizeE o m q b d r c = 2 := by
  have : sizeB o m q b d r c = false := by
    simp only [sizeB, inL, Bool.and_eq_false_iff, decide_eq_false_iff_not]
    match k, hk with
    | 0, _ => simp only [lK, nK, hK] at h; omega
    | 1, _ => simp only [lK, nK, hK] at h; omega
    | 2, _ => simp only [lK, nK, hK] at h; omega
    | 3, _ => simp only [lK, nK, hK] at h; omega
    | 4, _ => simp only [lK, nK, hK] at h; omega
    | 5, _ => simp only [lK, nK, hK] at h; omega
    | 6, _ => simp only [lK, nK, hK] at h; omega
  simp [sizeE, this]
theorem sizeE_yes (o m q b d r c : Int) (h : ∀ k, k < 7 → lK k ≤ nK o m q b d r c k ∧ nK o m q b d r c k ≤ hK k) : sizeE o m q b d r c = 0 := by
  have h0 := h 0 (by omega)
  have h1 := h 1 (by omega)
  have h2 := h 2 (by omega)
  have h3 := h 3 (by omega)
  have h4 := h 4 (by omega)
  have h5 := h 5 (by omega)
  have h6 := h 6 (by omega)
  simp only [lK, nK, hK] at h0 h1 h2 h3 h4 h5 h6
  have : sizeB o m q b d r c = true := by
    simp only [sizeB, inL, Bool.and_eq_true, decide_eq_true_eq]
    omega
  simp [sizeE, this]
theorem cell_of {w : World} {b T j : Nat} {arr : Array Value} {v : Value} (h : w.heap[b]? = some (.cells arr T (0, 0))) (hj : arr[j]? = some v) : w.cell? ⟨b, j, none⟩ = some v := by
  unfold World.cell?
  simp only [h]
  simpa using hj
theorem new_at (v : World) (x : Obj) {n : Nat} (h : n = v.heap.size) : (v.alloc x).heap[n]? = some x := by
  subst h
  show (v.heap.push x)[v.heap.size]? = some x
  simp
theorem boundCheck (o m q b d r c : Int) (w : World) : Calls Tryz.prog 11 #[.agg #[.int .i64 o, .int .i64 m, .int .i64 q, .int .i64 b, .int .i64 d, .int .i64 r, .int .i64 c]] w fun e w' => e = .returned (.int .i64 (sizeE o m q b d r c)) ∧ Below w.heap.size w w' := by
  go_enter Tryz.func11, Tryz.ntmps11
  go_wp2
  go_loopw [28] (fun i wr => ∃ k : Nat, k ≤ 7 ∧ i = .int .i64 k ∧ Below w.heap.size w wr ∧ wr.heap[w.heap.size + 1]? = some (.cells (spans o m q b d r c) 47 (0, 0)) ∧ ∀ j, j < k → lK j ≤ nK o m q b d r c j ∧ nK o m q b d r c j ≤ hK j) (fun i _ => (7 - intOf i).toNat)
  case atStart => exact ⟨0, by omega, rfl, ((Below.refl _ _).alloc (Nat.le_refl _) _).alloc (by simp) _, new_at _ _ (by simp), fun j hj => by omega⟩
  case round =>
    obtain ⟨k, hk, rfl, hb, ha, hg⟩ := hrel
    by_cases hlt : k < 7
    · obtain ⟨s0, s1, s2⟩ := spans_at o m q b d r c k hlt
      have c0 := cell_of ha s0
      have c1 := cell_of ha s1
      have c2 := cell_of ha s2
      have hno := sizeE_no o m q b d r c k hlt
      have hlt1 := lt_of_block ha
      have HA : Hid _ := ha
      have HG : Hid _ := hg
      have HN : Hid _ := hno
      clear ha hg hno s0 s1 s2
      generalize hn : nK o m q b d r c k = n at *
      generalize hl : lK k = l at *
      generalize hh : hK k = h at *
      have HQ : Hid (nK o m q b d r c k = n ∧ lK k = l ∧ hK k = h) := ⟨hn, hl, hh⟩
      clear hn hl hh
      go_wp2
      · go_ret
        exact ⟨by rw [HN.out (by omega)]; rfl, by first | exact (hb.alloc (by omega) _).setCell (by simp; omega) _ | exact hb.alloc (by omega) _ | exact ((hb.alloc (by omega) _).setCell (by simp; omega) _).setCell (by simp; omega) _⟩
      · go_roundw
        case rel =>
          refine ⟨k + 1, by omega, by go_num, ?_, ?_, ?_⟩
          · first | exact (hb.alloc (by omega) _).setCell (by simp; omega) _ | exact hb.alloc (by omega) _
          · first | (rw [Below.heap_setCell _ _ _ _ (by simp; omega), Below.heap_alloc _ _ _ hlt1]; exact HA.out) | (rw [Below.heap_alloc _ _ _ hlt1]; exact HA.out)
          · intro j hj
            by_cases e : j = k
            · subst e; obtain ⟨q1, q2, q3⟩ := HQ.out; rw [q1, q2, q3]; omega
            · exact HG.out j (by omega)
        case measure => simp [intOf]; omega
      · go_ret
        exact ⟨by rw [HN.out (by omega)]; rfl, by first | exact (hb.alloc (by omega) _).setCell (by simp; omega) _ | exact hb.alloc (by omega) _ | exact ((hb.alloc (by omega) _).setCell (by simp; omega) _).setCell (by simp; omega) _⟩
    · have hk7 : k = 7 := by omega
      subst hk7
      have he := sizeE_yes o m q b d r c hg
      have HE : Hid _ := he
      clear he hg ha
      go_wp2
      go_ret
      exact ⟨by rw [HE.out]; rfl, hb⟩
end Go.Proofs
end
section
set_option linter.unusedVariables false
namespace Go.Proofs
open Go.RowKit Go.Bound
open Go.Abs (Made1 Made2 Stays)
set_option maxHeartbeats 1000000
set_option maxRecDepth 100000
theorem in45 (n l h : Int) (w : World) : Calls Tryz.prog 19 #[.int .i64 n, .int .i64 l, .int .i64 h] w fun e w' => e = .returned (.bool (inL n l h)) ∧ w = w' := by
  by_cases h1 : l ≤ n
  · by_cases h2 : n ≤ h
    · have hv : inL n l h = true := by simp [inL, h1, h2]
      rw [hv]; clear hv
      go_enter Tryz.func19, Tryz.ntmps19
      go_wp2
      go_ret
      first | exact ⟨rfl, rfl⟩ | exact ⟨by simp, rfl⟩ | exact ⟨by simp; omega, rfl⟩
    · have hv : inL n l h = false := by simp [inL, h1, h2]
      rw [hv]; clear hv
      go_enter Tryz.func19, Tryz.ntmps19
      go_wp2
      go_ret
      first | exact ⟨rfl, rfl⟩ | exact ⟨by simp, rfl⟩ | exact ⟨by simp; omega, rfl⟩
  · have hv : inL n l h = false := by simp [inL, h1]
    rw [hv]; clear hv
    go_enter Tryz.func19, Tryz.ntmps19
    go_wp2
    go_ret
    first | exact ⟨rfl, rfl⟩ | exact ⟨by simp, rfl⟩ | exact ⟨by simp; omega, rfl⟩
theorem ref45Check0 (o m q b d r c : Int) (w : World) (h0 : inL o 1 256 = false) : Calls Tryz.prog 12 #[.agg #[.int .i64 o, .int .i64 m, .int .i64 q, .int .i64 b, .int .i64 d, .int .i64 r, .int .i64 c]] w fun e w' => e = .returned (.int .i64 2) ∧ Below w.heap.size w w' := by
  go_enter Tryz.func12, Tryz.ntmps12
  go_wp2_with (go_at_call 19; refine (in45 _ _ _ _).mono ?_; rintro e w1 ⟨rfl, rfl⟩)
  go_ret
  exact ⟨rfl, (Below.refl _ _).alloc (Nat.le_refl _) _⟩
theorem ref45Check1 (o m q b d r c : Int) (w : World) (h0 : inL o 1 256 = true) (h1 : inL m 1 4 = false) : Calls Tryz.prog 12 #[.agg #[.int .i64 o, .int .i64 m, .int .i64 q, .int .i64 b, .int .i64 d, .int .i64 r, .int .i64 c]] w fun e w' => e = .returned (.int .i64 2) ∧ Below w.heap.size w w' := by
  go_enter Tryz.func12, Tryz.ntmps12
  go_wp2_with (go_at_call 19; refine (in45 _ _ _ _).mono ?_; rintro e w1 ⟨rfl, rfl⟩)
  go_ret
  exact ⟨rfl, (Below.refl _ _).alloc (Nat.le_refl _) _⟩
theorem ref45Check2 (o m q b d r c : Int) (w : World) (h0 : inL o 1 256 = true) (h1 : inL m 1 4 = true) (h2 : inL q 1 64 = false) : Calls Tryz.prog 12 #[.agg #[.int .i64 o, .int .i64 m, .int .i64 q, .int .i64 b, .int .i64 d, .int .i64 r, .int .i64 c]] w fun e w' => e = .returned (.int .i64 2) ∧ Below w.heap.size w w' := by
  go_enter Tryz.func12, Tryz.ntmps12
  go_wp2_with (go_at_call 19; refine (in45 _ _ _ _).mono ?_; rintro e w1 ⟨rfl, rfl⟩)
  go_ret
  exact ⟨rfl, (Below.refl _ _).alloc (Nat.le_refl _) _⟩
theorem ref45Check3 (o m q b d r c : Int) (w : World) (h0 : inL o 1 256 = true) (h1 : inL m 1 4 = true) (h2 : inL q 1 64 = true) (h3 : inL b 1 64 = false) : Calls Tryz.prog 12 #[.agg #[.int .i64 o, .int .i64 m, .int .i64 q, .int .i64 b, .int .i64 d, .int .i64 r, .int .i64 c]] w fun e w' => e = .returned (.int .i64 2) ∧ Below w.heap.size w w' := by
  go_enter Tryz.func12, Tryz.ntmps12
  go_wp2_with (go_at_call 19; refine (in45 _ _ _ _).mono ?_; rintro e w1 ⟨rfl, rfl⟩)
  go_ret
  exact ⟨rfl, (Below.refl _ _).alloc (Nat.le_refl _) _⟩
theorem ref45Check4 (o m q b d r c : Int) (w : World) (h0 : inL o 1 256 = true) (h1 : inL m 1 4 = true) (h2 : inL q 1 64 = true) (h3 : inL b 1 64 = true) (h4 : inL d 1 2000 = false) : Calls Tryz.prog 12 #[.agg #[.int .i64 o, .int .i64 m, .int .i64 q, .int .i64 b, .int .i64 d, .int .i64 r, .int .i64 c]] w fun e w' => e = .returned (.int .i64 2) ∧ Below w.heap.size w w' := by
  go_enter Tryz.func12, Tryz.ntmps12
  go_wp2_with (go_at_call 19; refine (in45 _ _ _ _).mono ?_; rintro e w1 ⟨rfl, rfl⟩)
  go_ret
  exact ⟨rfl, (Below.refl _ _).alloc (Nat.le_refl _) _⟩
theorem ref45Check5 (o m q b d r c : Int) (w : World) (h0 : inL o 1 256 = true) (h1 : inL m 1 4 = true) (h2 : inL q 1 64 = true) (h3 : inL b 1 64 = true) (h4 : inL d 1 2000 = true) (h5 : inL r 0 2000 = false) : Calls Tryz.prog 12 #[.agg #[.int .i64 o, .int .i64 m, .int .i64 q, .int .i64 b, .int .i64 d, .int .i64 r, .int .i64 c]] w fun e w' => e = .returned (.int .i64 2) ∧ Below w.heap.size w w' := by
  go_enter Tryz.func12, Tryz.ntmps12
  go_wp2_with (go_at_call 19; refine (in45 _ _ _ _).mono ?_; rintro e w1 ⟨rfl, rfl⟩)
  go_ret
  exact ⟨rfl, (Below.refl _ _).alloc (Nat.le_refl _) _⟩
theorem ref45Check6 (o m q b d r c : Int) (w : World) (h0 : inL o 1 256 = true) (h1 : inL m 1 4 = true) (h2 : inL q 1 64 = true) (h3 : inL b 1 64 = true) (h4 : inL d 1 2000 = true) (h5 : inL r 0 2000 = true) (h6 : c < 1) : Calls Tryz.prog 12 #[.agg #[.int .i64 o, .int .i64 m, .int .i64 q, .int .i64 b, .int .i64 d, .int .i64 r, .int .i64 c]] w fun e w' => e = .returned (.int .i64 2) ∧ Below w.heap.size w w' := by
  go_enter Tryz.func12, Tryz.ntmps12
  go_wp2_with (go_at_call 19; refine (in45 _ _ _ _).mono ?_; rintro e w1 ⟨rfl, rfl⟩)
  go_ret
  exact ⟨rfl, (Below.refl _ _).alloc (Nat.le_refl _) _⟩
theorem ref45Check7 (o m q b d r c : Int) (w : World) (h0 : inL o 1 256 = true) (h1 : inL m 1 4 = true) (h2 : inL q 1 64 = true) (h3 : inL b 1 64 = true) (h4 : inL d 1 2000 = true) (h5 : inL r 0 2000 = true) (h6 : 1 ≤ c) (h7 : 1048576 < c) : Calls Tryz.prog 12 #[.agg #[.int .i64 o, .int .i64 m, .int .i64 q, .int .i64 b, .int .i64 d, .int .i64 r, .int .i64 c]] w fun e w' => e = .returned (.int .i64 2) ∧ Below w.heap.size w w' := by
  go_enter Tryz.func12, Tryz.ntmps12
  go_wp2_with (go_at_call 19; refine (in45 _ _ _ _).mono ?_; rintro e w1 ⟨rfl, rfl⟩)
  go_ret
  exact ⟨rfl, (Below.refl _ _).alloc (Nat.le_refl _) _⟩
theorem ref45Check8 (o m q b d r c : Int) (w : World) (h0 : inL o 1 256 = true) (h1 : inL m 1 4 = true) (h2 : inL q 1 64 = true) (h3 : inL b 1 64 = true) (h4 : inL d 1 2000 = true) (h5 : inL r 0 2000 = true) (h6 : 1 ≤ c) (h7 : c ≤ 1048576) : Calls Tryz.prog 12 #[.agg #[.int .i64 o, .int .i64 m, .int .i64 q, .int .i64 b, .int .i64 d, .int .i64 r, .int .i64 c]] w fun e w' => e = .returned (.int .i64 0) ∧ Below w.heap.size w w' := by
  go_enter Tryz.func12, Tryz.ntmps12
  go_wp2_with (go_at_call 19; refine (in45 _ _ _ _).mono ?_; rintro e w1 ⟨rfl, rfl⟩)
  go_ret
  exact ⟨rfl, (Below.refl _ _).alloc (Nat.le_refl _) _⟩
theorem ref45Check (o m q b d r c : Int) (w : World) : Calls Tryz.prog 12 #[.agg #[.int .i64 o, .int .i64 m, .int .i64 q, .int .i64 b, .int .i64 d, .int .i64 r, .int .i64 c]] w fun e w' => e = .returned (.int .i64 (sizeE o m q b d r c)) ∧ Below w.heap.size w w' := by
  cases h0 : inL o 1 256 with
  | false =>
    have he : sizeE o m q b d r c = 2 := by simp [sizeE, sizeB, h0]
    rw [he]; exact ref45Check0 o m q b d r c w h0
  | true =>
  cases h1 : inL m 1 4 with
  | false =>
    have he : sizeE o m q b d r c = 2 := by simp [sizeE, sizeB, h1]
    rw [he]; exact ref45Check1 o m q b d r c w h0 h1
  | true =>
  cases h2 : inL q 1 64 with
  | false =>
    have he : sizeE o m q b d r c = 2 := by simp [sizeE, sizeB, h2]
    rw [he]; exact ref45Check2 o m q b d r c w h0 h1 h2
  | true =>
  cases h3 : inL b 1 64 with
  | false =>
    have he : sizeE o m q b d r c = 2 := by simp [sizeE, sizeB, h3]
    rw [he]; exact ref45Check3 o m q b d r c w h0 h1 h2 h3
  | true =>
  cases h4 : inL d 1 2000 with
  | false =>
    have he : sizeE o m q b d r c = 2 := by simp [sizeE, sizeB, h4]
    rw [he]; exact ref45Check4 o m q b d r c w h0 h1 h2 h3 h4
  | true =>
  cases h5 : inL r 0 2000 with
  | false =>
    have he : sizeE o m q b d r c = 2 := by simp [sizeE, sizeB, h5]
    rw [he]; exact ref45Check5 o m q b d r c w h0 h1 h2 h3 h4 h5
  | true =>
  by_cases h6 : 1 ≤ c
  · by_cases h7 : c ≤ 1048576
    · have hc : inL c 1 1048576 = true := by simp [inL, h6, h7]
      have he : sizeE o m q b d r c = 0 := by simp [sizeE, sizeB, h0, h1, h2, h3, h4, h5, hc]
      rw [he]; exact ref45Check8 o m q b d r c w h0 h1 h2 h3 h4 h5 h6 h7
    · have he : sizeE o m q b d r c = 2 := by simp [sizeE, sizeB, inL, h7]
      rw [he]; exact ref45Check7 o m q b d r c w h0 h1 h2 h3 h4 h5 h6 (by omega)
  · have he : sizeE o m q b d r c = 2 := by simp [sizeE, sizeB, inL, h6]
    rw [he]; exact ref45Check6 o m q b d r c w h0 h1 h2 h3 h4 h5 (by omega)
end Go.Proofs
end
