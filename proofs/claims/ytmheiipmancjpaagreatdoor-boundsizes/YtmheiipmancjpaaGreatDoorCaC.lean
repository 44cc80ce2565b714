/- Proved here: the functions that say whether a configuration is allowed. By an AI agent. -/
import Derived.Test.YtmheiipmancjpaaGreatDoorCaA
set_option linter.unusedVariables false
set_option linter.unusedSimpArgs false
section
namespace Go.Proofs
open Go.RowKit Go.Bound
open Go.Abs (Made1 Made2 Stays)
set_option maxHeartbeats 400000
def inB (n m : Int) : Bool := decide (1 ≤ n) && decide (n ≤ m)
theorem in_any (n m : Int) (w : World) :
    Calls Tryz.prog 75 #[.int .i64 n, .int .i64 m] w fun e w' => e = .returned (.bool (inB n m)) ∧ w = w' := by
  by_cases h1 : 1 ≤ n
  · by_cases h2 : n ≤ m
    · have hv : inB n m = true := by simp [inB, h1, h2]
      rw [hv]; clear hv
      go_enter Tryz.func75, Tryz.ntmps75
      go_wp2
      go_ret
      first | exact ⟨rfl, rfl⟩ | exact ⟨by simp, rfl⟩ | exact ⟨by simp; omega, rfl⟩
    · have hv : inB n m = false := by simp [inB, h1, h2]
      rw [hv]; clear hv
      go_enter Tryz.func75, Tryz.ntmps75
      go_wp2
      go_ret
      first | exact ⟨rfl, rfl⟩ | exact ⟨by simp, rfl⟩ | exact ⟨by simp; omega, rfl⟩
  · have hv : inB n m = false := by simp [inB, h1]
    rw [hv]; clear hv
    go_enter Tryz.func75, Tryz.ntmps75
    go_wp2
    go_ret
    first | exact ⟨rfl, rfl⟩ | exact ⟨by simp, rfl⟩ | exact ⟨by simp; omega, rfl⟩
/-- Base and cap are allowed. -/
def backB (b c : Int) : Bool := decide (1 ≤ b) && decide (b ≤ c) && decide (c ≤ 1048576)
def backE (b c : Int) : Int := if backB b c = true then 0 else 2
theorem back_any (b c : Int) (w : World) :
    Calls Tryz.prog 76 #[.int .i64 b, .int .i64 c] w fun e w' => e = .returned (.int .i64 (backE b c)) ∧ w = w' := by
  by_cases h1 : 1 ≤ b
  · by_cases h2 : b ≤ c
    · by_cases h3 : c ≤ 1048576
      · have hv : backE b c = 0 := by simp [backE, backB, h1, h2, h3]
        rw [hv]; clear hv
        go_enter Tryz.func76, Tryz.ntmps76
        go_wp2
        go_ret
        exact ⟨rfl, rfl⟩
      · have hv : backE b c = 2 := by simp [backE, backB, h1, h2, h3]
        rw [hv]; clear hv
        go_enter Tryz.func76, Tryz.ntmps76
        go_wp2
        go_ret
        exact ⟨rfl, rfl⟩
    · have hv : backE b c = 2 := by simp [backE, backB, h1, h2]
      rw [hv]; clear hv
      go_enter Tryz.func76, Tryz.ntmps76
      go_wp2
      go_ret
      exact ⟨rfl, rfl⟩
  · have hv : backE b c = 2 := by simp [backE, backB, h1]
    rw [hv]; clear hv
    go_enter Tryz.func76, Tryz.ntmps76
    go_wp2
    go_ret
    exact ⟨rfl, rfl⟩
end Go.Proofs
end
section
namespace Go.Proofs
open Go.RowKit Go.Bound
open Go.Abs (Made1 Made2 Stays)
set_option maxHeartbeats 1000000
def cfgV (o m s b q qt ba bs cp f : Int) : Value := .agg #[.int .i64 o, .int .i64 m, .int .i64 s, .int .i64 b, .int .i64 q, .int .i64 qt, .int .i64 ba, .int .i64 bs, .int .i64 cp, .int .u32 f]
theorem backE_yes {b c : Int} (h : backB b c = true) : backE b c = 0 := by simp [backE, h]
theorem backE_no {b c : Int} (h : backB b c = false) : backE b c = 2 := by simp [backE, h]
theorem allowed_yes (o m s b q qt ba bs cp f : Int) (w : World) (h1 : inB o 256 = true) (h2 : inB qt 256 = true) (h3 : inB m 4 = true) (h4 : inB s 64 = true) (h5 : inB b 64 = true) (h6 : inB q 64 = true) (h7 : inB ba 64 = true)
    (h8 : backB bs cp = true) (h9 : 1 ≤ f) :
    Calls Tryz.prog 39 #[.agg #[.int .i64 o, .int .i64 m, .int .i64 s, .int .i64 b, .int .i64 q, .int .i64 qt, .int .i64 ba, .int .i64 bs, .int .i64 cp, .int .u32 f]] w fun e w' => e = .returned (.bool true) ∧ Below w.heap.size w w' := by
  have h8' := backE_yes h8
  clear h8
  go_enter Tryz.func39, Tryz.ntmps39
  go_wp2_with (first | (go_at_call 75; refine (in_any _ _ _).mono ?_; rintro e w1 ⟨rfl, rfl⟩) | (go_at_call 76; refine (back_any _ _ _).mono ?_; rintro e w1 ⟨rfl, rfl⟩))
  go_ret
  exact ⟨by simp; try omega, (Below.refl _ _).alloc (Nat.le_refl _) _⟩
theorem allowed_no0 (o m s b q qt ba bs cp f : Int) (w : World) (h1 : inB o 256 = false) :
    Calls Tryz.prog 39 #[.agg #[.int .i64 o, .int .i64 m, .int .i64 s, .int .i64 b, .int .i64 q, .int .i64 qt, .int .i64 ba, .int .i64 bs, .int .i64 cp, .int .u32 f]] w fun e w' => e = .returned (.bool false) ∧ Below w.heap.size w w' := by
  go_enter Tryz.func39, Tryz.ntmps39
  go_wp2_with (first | (go_at_call 75; refine (in_any _ _ _).mono ?_; rintro e w1 ⟨rfl, rfl⟩) | (go_at_call 76; refine (back_any _ _ _).mono ?_; rintro e w1 ⟨rfl, rfl⟩))
  go_ret
  exact ⟨by first | rfl | (simp; done) | (simp; omega), (Below.refl _ _).alloc (Nat.le_refl _) _⟩
theorem allowed_no1 (o m s b q qt ba bs cp f : Int) (w : World) (h1 : inB o 256 = true) (h2 : inB qt 256 = false) :
    Calls Tryz.prog 39 #[.agg #[.int .i64 o, .int .i64 m, .int .i64 s, .int .i64 b, .int .i64 q, .int .i64 qt, .int .i64 ba, .int .i64 bs, .int .i64 cp, .int .u32 f]] w fun e w' => e = .returned (.bool false) ∧ Below w.heap.size w w' := by
  go_enter Tryz.func39, Tryz.ntmps39
  go_wp2_with (first | (go_at_call 75; refine (in_any _ _ _).mono ?_; rintro e w1 ⟨rfl, rfl⟩) | (go_at_call 76; refine (back_any _ _ _).mono ?_; rintro e w1 ⟨rfl, rfl⟩))
  go_ret
  exact ⟨by first | rfl | (simp; done) | (simp; omega), (Below.refl _ _).alloc (Nat.le_refl _) _⟩
theorem allowed_no2 (o m s b q qt ba bs cp f : Int) (w : World) (h1 : inB o 256 = true) (h2 : inB qt 256 = true) (h3 : inB m 4 = false) :
    Calls Tryz.prog 39 #[.agg #[.int .i64 o, .int .i64 m, .int .i64 s, .int .i64 b, .int .i64 q, .int .i64 qt, .int .i64 ba, .int .i64 bs, .int .i64 cp, .int .u32 f]] w fun e w' => e = .returned (.bool false) ∧ Below w.heap.size w w' := by
  go_enter Tryz.func39, Tryz.ntmps39
  go_wp2_with (first | (go_at_call 75; refine (in_any _ _ _).mono ?_; rintro e w1 ⟨rfl, rfl⟩) | (go_at_call 76; refine (back_any _ _ _).mono ?_; rintro e w1 ⟨rfl, rfl⟩))
  go_ret
  exact ⟨by first | rfl | (simp; done) | (simp; omega), (Below.refl _ _).alloc (Nat.le_refl _) _⟩
theorem allowed_no3 (o m s b q qt ba bs cp f : Int) (w : World) (h1 : inB o 256 = true) (h2 : inB qt 256 = true) (h3 : inB m 4 = true) (h4 : inB s 64 = false) :
    Calls Tryz.prog 39 #[.agg #[.int .i64 o, .int .i64 m, .int .i64 s, .int .i64 b, .int .i64 q, .int .i64 qt, .int .i64 ba, .int .i64 bs, .int .i64 cp, .int .u32 f]] w fun e w' => e = .returned (.bool false) ∧ Below w.heap.size w w' := by
  go_enter Tryz.func39, Tryz.ntmps39
  go_wp2_with (first | (go_at_call 75; refine (in_any _ _ _).mono ?_; rintro e w1 ⟨rfl, rfl⟩) | (go_at_call 76; refine (back_any _ _ _).mono ?_; rintro e w1 ⟨rfl, rfl⟩))
  go_ret
  exact ⟨by first | rfl | (simp; done) | (simp; omega), (Below.refl _ _).alloc (Nat.le_refl _) _⟩
theorem allowed_no4 (o m s b q qt ba bs cp f : Int) (w : World) (h1 : inB o 256 = true) (h2 : inB qt 256 = true) (h3 : inB m 4 = true) (h4 : inB s 64 = true) (h5 : inB b 64 = false) :
    Calls Tryz.prog 39 #[.agg #[.int .i64 o, .int .i64 m, .int .i64 s, .int .i64 b, .int .i64 q, .int .i64 qt, .int .i64 ba, .int .i64 bs, .int .i64 cp, .int .u32 f]] w fun e w' => e = .returned (.bool false) ∧ Below w.heap.size w w' := by
  go_enter Tryz.func39, Tryz.ntmps39
  go_wp2_with (first | (go_at_call 75; refine (in_any _ _ _).mono ?_; rintro e w1 ⟨rfl, rfl⟩) | (go_at_call 76; refine (back_any _ _ _).mono ?_; rintro e w1 ⟨rfl, rfl⟩))
  go_ret
  exact ⟨by first | rfl | (simp; done) | (simp; omega), (Below.refl _ _).alloc (Nat.le_refl _) _⟩
theorem allowed_no5 (o m s b q qt ba bs cp f : Int) (w : World) (h1 : inB o 256 = true) (h2 : inB qt 256 = true) (h3 : inB m 4 = true) (h4 : inB s 64 = true) (h5 : inB b 64 = true) (h6 : inB q 64 = false) :
    Calls Tryz.prog 39 #[.agg #[.int .i64 o, .int .i64 m, .int .i64 s, .int .i64 b, .int .i64 q, .int .i64 qt, .int .i64 ba, .int .i64 bs, .int .i64 cp, .int .u32 f]] w fun e w' => e = .returned (.bool false) ∧ Below w.heap.size w w' := by
  go_enter Tryz.func39, Tryz.ntmps39
  go_wp2_with (first | (go_at_call 75; refine (in_any _ _ _).mono ?_; rintro e w1 ⟨rfl, rfl⟩) | (go_at_call 76; refine (back_any _ _ _).mono ?_; rintro e w1 ⟨rfl, rfl⟩))
  go_ret
  exact ⟨by first | rfl | (simp; done) | (simp; omega), (Below.refl _ _).alloc (Nat.le_refl _) _⟩
theorem allowed_no6 (o m s b q qt ba bs cp f : Int) (w : World) (h1 : inB o 256 = true) (h2 : inB qt 256 = true) (h3 : inB m 4 = true) (h4 : inB s 64 = true) (h5 : inB b 64 = true) (h6 : inB q 64 = true) (h7 : inB ba 64 = false) :
    Calls Tryz.prog 39 #[.agg #[.int .i64 o, .int .i64 m, .int .i64 s, .int .i64 b, .int .i64 q, .int .i64 qt, .int .i64 ba, .int .i64 bs, .int .i64 cp, .int .u32 f]] w fun e w' => e = .returned (.bool false) ∧ Below w.heap.size w w' := by
  go_enter Tryz.func39, Tryz.ntmps39
  go_wp2_with (first | (go_at_call 75; refine (in_any _ _ _).mono ?_; rintro e w1 ⟨rfl, rfl⟩) | (go_at_call 76; refine (back_any _ _ _).mono ?_; rintro e w1 ⟨rfl, rfl⟩))
  go_ret
  exact ⟨by first | rfl | (simp; done) | (simp; omega), (Below.refl _ _).alloc (Nat.le_refl _) _⟩
theorem allowed_no7 (o m s b q qt ba bs cp f : Int) (w : World) (h1 : inB o 256 = true) (h2 : inB qt 256 = true) (h3 : inB m 4 = true) (h4 : inB s 64 = true) (h5 : inB b 64 = true) (h6 : inB q 64 = true) (h7 : inB ba 64 = true) (h8 : backB bs cp = false) :
    Calls Tryz.prog 39 #[.agg #[.int .i64 o, .int .i64 m, .int .i64 s, .int .i64 b, .int .i64 q, .int .i64 qt, .int .i64 ba, .int .i64 bs, .int .i64 cp, .int .u32 f]] w fun e w' => e = .returned (.bool false) ∧ Below w.heap.size w w' := by
  have h8' := backE_no h8
  clear h8
  go_enter Tryz.func39, Tryz.ntmps39
  go_wp2_with (first | (go_at_call 75; refine (in_any _ _ _).mono ?_; rintro e w1 ⟨rfl, rfl⟩) | (go_at_call 76; refine (back_any _ _ _).mono ?_; rintro e w1 ⟨rfl, rfl⟩))
  go_ret
  exact ⟨by first | rfl | (simp; done) | (simp; omega), (Below.refl _ _).alloc (Nat.le_refl _) _⟩
theorem allowed_no8 (o m s b q qt ba bs cp f : Int) (w : World) (h1 : inB o 256 = true) (h2 : inB qt 256 = true) (h3 : inB m 4 = true) (h4 : inB s 64 = true) (h5 : inB b 64 = true) (h6 : inB q 64 = true) (h7 : inB ba 64 = true) (h8 : backB bs cp = true) (h9 : ¬ 1 ≤ f) :
    Calls Tryz.prog 39 #[.agg #[.int .i64 o, .int .i64 m, .int .i64 s, .int .i64 b, .int .i64 q, .int .i64 qt, .int .i64 ba, .int .i64 bs, .int .i64 cp, .int .u32 f]] w fun e w' => e = .returned (.bool false) ∧ Below w.heap.size w w' := by
  have h8' := backE_yes h8
  clear h8
  go_enter Tryz.func39, Tryz.ntmps39
  go_wp2_with (first | (go_at_call 75; refine (in_any _ _ _).mono ?_; rintro e w1 ⟨rfl, rfl⟩) | (go_at_call 76; refine (back_any _ _ _).mono ?_; rintro e w1 ⟨rfl, rfl⟩))
  go_ret
  exact ⟨by first | rfl | (simp; done) | (simp; omega), (Below.refl _ _).alloc (Nat.le_refl _) _⟩
def validB (o m s b q qt ba bs cp f : Int) : Bool := inB o 256 && inB qt 256 && inB m 4 && inB s 64 && inB b 64 && inB q 64 && inB ba 64 && backB bs cp && decide (1 ≤ f)
theorem allowed_any (o m s b q qt ba bs cp f : Int) (w : World) :
    Calls Tryz.prog 39 #[.agg #[.int .i64 o, .int .i64 m, .int .i64 s, .int .i64 b, .int .i64 q, .int .i64 qt, .int .i64 ba, .int .i64 bs, .int .i64 cp, .int .u32 f]] w fun e w' => e = .returned (.bool (validB o m s b q qt ba bs cp f)) ∧ Below w.heap.size w w' := by
  unfold validB
  cases h1 : inB o 256 with
  | false => simpa using allowed_no0 o m s b q qt ba bs cp f w h1
  | true =>
  cases h2 : inB qt 256 with
  | false => simpa using allowed_no1 o m s b q qt ba bs cp f w h1 h2
  | true =>
  cases h3 : inB m 4 with
  | false => simpa using allowed_no2 o m s b q qt ba bs cp f w h1 h2 h3
  | true =>
  cases h4 : inB s 64 with
  | false => simpa using allowed_no3 o m s b q qt ba bs cp f w h1 h2 h3 h4
  | true =>
  cases h5 : inB b 64 with
  | false => simpa using allowed_no4 o m s b q qt ba bs cp f w h1 h2 h3 h4 h5
  | true =>
  cases h6 : inB q 64 with
  | false => simpa using allowed_no5 o m s b q qt ba bs cp f w h1 h2 h3 h4 h5 h6
  | true =>
  cases h7 : inB ba 64 with
  | false => simpa using allowed_no6 o m s b q qt ba bs cp f w h1 h2 h3 h4 h5 h6 h7
  | true =>
  cases h8 : backB bs cp with
  | false => simpa using allowed_no7 o m s b q qt ba bs cp f w h1 h2 h3 h4 h5 h6 h7 h8
  | true =>
  by_cases h9 : 1 ≤ f
  · simpa [h9] using allowed_yes o m s b q qt ba bs cp f w h1 h2 h3 h4 h5 h6 h7 h8 h9
  · simpa [h9] using allowed_no8 o m s b q qt ba bs cp f w h1 h2 h3 h4 h5 h6 h7 h8 h9
end Go.Proofs
end
