/- Proved here: the document's Allowed, for every configuration. By an AI agent. -/
import Derived.Test.YtmheiipmancjpaaGreatDoorCaE
set_option linter.unusedVariables false
set_option linter.unusedSimpArgs false
set_option linter.unusedVariables false
namespace Go.Proofs
open Go.RowKit Go.Bound
open Go.Abs (Made1 Made2 Stays)
set_option maxHeartbeats 1000000
set_option maxRecDepth 100000
theorem r47_0 (o m s b q qt ba bs cp f : Int) (w : World) (h0 : ¬ 1 ≤ o) : Calls Tryz.prog 47 #[.agg #[.int .i64 o, .int .i64 m, .int .i64 s, .int .i64 b, .int .i64 q, .int .i64 qt, .int .i64 ba, .int .i64 bs, .int .i64 cp, .int .u32 f]] w fun e w' => e = .returned (.bool false) ∧ Below w.heap.size w w' := by
  go_enter Tryz.func47, Tryz.ntmps47
  go_wp2
  go_ret
  exact ⟨by first | rfl | (simp; done) | (simp; omega), (Below.refl _ _).alloc (Nat.le_refl _) _⟩
theorem r47_1 (o m s b q qt ba bs cp f : Int) (w : World) (h0 : 1 ≤ o) (h1 : ¬ o ≤ 256) : Calls Tryz.prog 47 #[.agg #[.int .i64 o, .int .i64 m, .int .i64 s, .int .i64 b, .int .i64 q, .int .i64 qt, .int .i64 ba, .int .i64 bs, .int .i64 cp, .int .u32 f]] w fun e w' => e = .returned (.bool false) ∧ Below w.heap.size w w' := by
  go_enter Tryz.func47, Tryz.ntmps47
  go_wp2
  go_ret
  exact ⟨by first | rfl | (simp; done) | (simp; omega), (Below.refl _ _).alloc (Nat.le_refl _) _⟩
theorem r47_2 (o m s b q qt ba bs cp f : Int) (w : World) (h0 : 1 ≤ o) (h1 : o ≤ 256) (h2 : ¬ 1 ≤ qt) : Calls Tryz.prog 47 #[.agg #[.int .i64 o, .int .i64 m, .int .i64 s, .int .i64 b, .int .i64 q, .int .i64 qt, .int .i64 ba, .int .i64 bs, .int .i64 cp, .int .u32 f]] w fun e w' => e = .returned (.bool false) ∧ Below w.heap.size w w' := by
  go_enter Tryz.func47, Tryz.ntmps47
  go_wp2
  go_ret
  exact ⟨by first | rfl | (simp; done) | (simp; omega), (Below.refl _ _).alloc (Nat.le_refl _) _⟩
theorem r47_3 (o m s b q qt ba bs cp f : Int) (w : World) (h0 : 1 ≤ o) (h1 : o ≤ 256) (h2 : 1 ≤ qt) (h3 : ¬ qt ≤ 256) : Calls Tryz.prog 47 #[.agg #[.int .i64 o, .int .i64 m, .int .i64 s, .int .i64 b, .int .i64 q, .int .i64 qt, .int .i64 ba, .int .i64 bs, .int .i64 cp, .int .u32 f]] w fun e w' => e = .returned (.bool false) ∧ Below w.heap.size w w' := by
  go_enter Tryz.func47, Tryz.ntmps47
  go_wp2
  go_ret
  exact ⟨by first | rfl | (simp; done) | (simp; omega), (Below.refl _ _).alloc (Nat.le_refl _) _⟩
theorem r47_4 (o m s b q qt ba bs cp f : Int) (w : World) (h0 : 1 ≤ o) (h1 : o ≤ 256) (h2 : 1 ≤ qt) (h3 : qt ≤ 256) (h4 : ¬ 1 ≤ m) : Calls Tryz.prog 47 #[.agg #[.int .i64 o, .int .i64 m, .int .i64 s, .int .i64 b, .int .i64 q, .int .i64 qt, .int .i64 ba, .int .i64 bs, .int .i64 cp, .int .u32 f]] w fun e w' => e = .returned (.bool false) ∧ Below w.heap.size w w' := by
  go_enter Tryz.func47, Tryz.ntmps47
  go_wp2
  go_ret
  exact ⟨by first | rfl | (simp; done) | (simp; omega), (Below.refl _ _).alloc (Nat.le_refl _) _⟩
theorem r47_5 (o m s b q qt ba bs cp f : Int) (w : World) (h0 : 1 ≤ o) (h1 : o ≤ 256) (h2 : 1 ≤ qt) (h3 : qt ≤ 256) (h4 : 1 ≤ m) (h5 : ¬ m ≤ 4) : Calls Tryz.prog 47 #[.agg #[.int .i64 o, .int .i64 m, .int .i64 s, .int .i64 b, .int .i64 q, .int .i64 qt, .int .i64 ba, .int .i64 bs, .int .i64 cp, .int .u32 f]] w fun e w' => e = .returned (.bool false) ∧ Below w.heap.size w w' := by
  go_enter Tryz.func47, Tryz.ntmps47
  go_wp2
  go_ret
  exact ⟨by first | rfl | (simp; done) | (simp; omega), (Below.refl _ _).alloc (Nat.le_refl _) _⟩
theorem r47_6 (o m s b q qt ba bs cp f : Int) (w : World) (h0 : 1 ≤ o) (h1 : o ≤ 256) (h2 : 1 ≤ qt) (h3 : qt ≤ 256) (h4 : 1 ≤ m) (h5 : m ≤ 4) (h6 : ¬ 1 ≤ s) : Calls Tryz.prog 47 #[.agg #[.int .i64 o, .int .i64 m, .int .i64 s, .int .i64 b, .int .i64 q, .int .i64 qt, .int .i64 ba, .int .i64 bs, .int .i64 cp, .int .u32 f]] w fun e w' => e = .returned (.bool false) ∧ Below w.heap.size w w' := by
  go_enter Tryz.func47, Tryz.ntmps47
  go_wp2
  go_ret
  exact ⟨by first | rfl | (simp; done) | (simp; omega), (Below.refl _ _).alloc (Nat.le_refl _) _⟩
theorem r47_7 (o m s b q qt ba bs cp f : Int) (w : World) (h0 : 1 ≤ o) (h1 : o ≤ 256) (h2 : 1 ≤ qt) (h3 : qt ≤ 256) (h4 : 1 ≤ m) (h5 : m ≤ 4) (h6 : 1 ≤ s) (h7 : ¬ s ≤ 64) : Calls Tryz.prog 47 #[.agg #[.int .i64 o, .int .i64 m, .int .i64 s, .int .i64 b, .int .i64 q, .int .i64 qt, .int .i64 ba, .int .i64 bs, .int .i64 cp, .int .u32 f]] w fun e w' => e = .returned (.bool false) ∧ Below w.heap.size w w' := by
  go_enter Tryz.func47, Tryz.ntmps47
  go_wp2
  go_ret
  exact ⟨by first | rfl | (simp; done) | (simp; omega), (Below.refl _ _).alloc (Nat.le_refl _) _⟩
theorem r47_8 (o m s b q qt ba bs cp f : Int) (w : World) (h0 : 1 ≤ o) (h1 : o ≤ 256) (h2 : 1 ≤ qt) (h3 : qt ≤ 256) (h4 : 1 ≤ m) (h5 : m ≤ 4) (h6 : 1 ≤ s) (h7 : s ≤ 64) (h8 : ¬ 1 ≤ b) : Calls Tryz.prog 47 #[.agg #[.int .i64 o, .int .i64 m, .int .i64 s, .int .i64 b, .int .i64 q, .int .i64 qt, .int .i64 ba, .int .i64 bs, .int .i64 cp, .int .u32 f]] w fun e w' => e = .returned (.bool false) ∧ Below w.heap.size w w' := by
  go_enter Tryz.func47, Tryz.ntmps47
  go_wp2
  go_ret
  exact ⟨by first | rfl | (simp; done) | (simp; omega), (Below.refl _ _).alloc (Nat.le_refl _) _⟩
theorem r47_9 (o m s b q qt ba bs cp f : Int) (w : World) (h0 : 1 ≤ o) (h1 : o ≤ 256) (h2 : 1 ≤ qt) (h3 : qt ≤ 256) (h4 : 1 ≤ m) (h5 : m ≤ 4) (h6 : 1 ≤ s) (h7 : s ≤ 64) (h8 : 1 ≤ b) (h9 : ¬ b ≤ 64) : Calls Tryz.prog 47 #[.agg #[.int .i64 o, .int .i64 m, .int .i64 s, .int .i64 b, .int .i64 q, .int .i64 qt, .int .i64 ba, .int .i64 bs, .int .i64 cp, .int .u32 f]] w fun e w' => e = .returned (.bool false) ∧ Below w.heap.size w w' := by
  go_enter Tryz.func47, Tryz.ntmps47
  go_wp2
  go_ret
  exact ⟨by first | rfl | (simp; done) | (simp; omega), (Below.refl _ _).alloc (Nat.le_refl _) _⟩
theorem r47_10 (o m s b q qt ba bs cp f : Int) (w : World) (h0 : 1 ≤ o) (h1 : o ≤ 256) (h2 : 1 ≤ qt) (h3 : qt ≤ 256) (h4 : 1 ≤ m) (h5 : m ≤ 4) (h6 : 1 ≤ s) (h7 : s ≤ 64) (h8 : 1 ≤ b) (h9 : b ≤ 64) (h10 : ¬ 1 ≤ q) : Calls Tryz.prog 47 #[.agg #[.int .i64 o, .int .i64 m, .int .i64 s, .int .i64 b, .int .i64 q, .int .i64 qt, .int .i64 ba, .int .i64 bs, .int .i64 cp, .int .u32 f]] w fun e w' => e = .returned (.bool false) ∧ Below w.heap.size w w' := by
  go_enter Tryz.func47, Tryz.ntmps47
  go_wp2
  go_ret
  exact ⟨by first | rfl | (simp; done) | (simp; omega), (Below.refl _ _).alloc (Nat.le_refl _) _⟩
theorem r47_11 (o m s b q qt ba bs cp f : Int) (w : World) (h0 : 1 ≤ o) (h1 : o ≤ 256) (h2 : 1 ≤ qt) (h3 : qt ≤ 256) (h4 : 1 ≤ m) (h5 : m ≤ 4) (h6 : 1 ≤ s) (h7 : s ≤ 64) (h8 : 1 ≤ b) (h9 : b ≤ 64) (h10 : 1 ≤ q) (h11 : ¬ q ≤ 64) : Calls Tryz.prog 47 #[.agg #[.int .i64 o, .int .i64 m, .int .i64 s, .int .i64 b, .int .i64 q, .int .i64 qt, .int .i64 ba, .int .i64 bs, .int .i64 cp, .int .u32 f]] w fun e w' => e = .returned (.bool false) ∧ Below w.heap.size w w' := by
  go_enter Tryz.func47, Tryz.ntmps47
  go_wp2
  go_ret
  exact ⟨by first | rfl | (simp; done) | (simp; omega), (Below.refl _ _).alloc (Nat.le_refl _) _⟩
theorem r47_12 (o m s b q qt ba bs cp f : Int) (w : World) (h0 : 1 ≤ o) (h1 : o ≤ 256) (h2 : 1 ≤ qt) (h3 : qt ≤ 256) (h4 : 1 ≤ m) (h5 : m ≤ 4) (h6 : 1 ≤ s) (h7 : s ≤ 64) (h8 : 1 ≤ b) (h9 : b ≤ 64) (h10 : 1 ≤ q) (h11 : q ≤ 64) (h12 : ¬ 1 ≤ ba) : Calls Tryz.prog 47 #[.agg #[.int .i64 o, .int .i64 m, .int .i64 s, .int .i64 b, .int .i64 q, .int .i64 qt, .int .i64 ba, .int .i64 bs, .int .i64 cp, .int .u32 f]] w fun e w' => e = .returned (.bool false) ∧ Below w.heap.size w w' := by
  go_enter Tryz.func47, Tryz.ntmps47
  go_wp2
  go_ret
  exact ⟨by first | rfl | (simp; done) | (simp; omega), (Below.refl _ _).alloc (Nat.le_refl _) _⟩
theorem r47_13 (o m s b q qt ba bs cp f : Int) (w : World) (h0 : 1 ≤ o) (h1 : o ≤ 256) (h2 : 1 ≤ qt) (h3 : qt ≤ 256) (h4 : 1 ≤ m) (h5 : m ≤ 4) (h6 : 1 ≤ s) (h7 : s ≤ 64) (h8 : 1 ≤ b) (h9 : b ≤ 64) (h10 : 1 ≤ q) (h11 : q ≤ 64) (h12 : 1 ≤ ba) (h13 : ¬ ba ≤ 64) : Calls Tryz.prog 47 #[.agg #[.int .i64 o, .int .i64 m, .int .i64 s, .int .i64 b, .int .i64 q, .int .i64 qt, .int .i64 ba, .int .i64 bs, .int .i64 cp, .int .u32 f]] w fun e w' => e = .returned (.bool false) ∧ Below w.heap.size w w' := by
  go_enter Tryz.func47, Tryz.ntmps47
  go_wp2
  go_ret
  exact ⟨by first | rfl | (simp; done) | (simp; omega), (Below.refl _ _).alloc (Nat.le_refl _) _⟩
theorem r47_14 (o m s b q qt ba bs cp f : Int) (w : World) (h0 : 1 ≤ o) (h1 : o ≤ 256) (h2 : 1 ≤ qt) (h3 : qt ≤ 256) (h4 : 1 ≤ m) (h5 : m ≤ 4) (h6 : 1 ≤ s) (h7 : s ≤ 64) (h8 : 1 ≤ b) (h9 : b ≤ 64) (h10 : 1 ≤ q) (h11 : q ≤ 64) (h12 : 1 ≤ ba) (h13 : ba ≤ 64) (h14 : ¬ 1 ≤ bs) : Calls Tryz.prog 47 #[.agg #[.int .i64 o, .int .i64 m, .int .i64 s, .int .i64 b, .int .i64 q, .int .i64 qt, .int .i64 ba, .int .i64 bs, .int .i64 cp, .int .u32 f]] w fun e w' => e = .returned (.bool false) ∧ Below w.heap.size w w' := by
  go_enter Tryz.func47, Tryz.ntmps47
  go_wp2
  go_ret
  exact ⟨by first | rfl | (simp; done) | (simp; omega), (Below.refl _ _).alloc (Nat.le_refl _) _⟩
theorem r47_15 (o m s b q qt ba bs cp f : Int) (w : World) (h0 : 1 ≤ o) (h1 : o ≤ 256) (h2 : 1 ≤ qt) (h3 : qt ≤ 256) (h4 : 1 ≤ m) (h5 : m ≤ 4) (h6 : 1 ≤ s) (h7 : s ≤ 64) (h8 : 1 ≤ b) (h9 : b ≤ 64) (h10 : 1 ≤ q) (h11 : q ≤ 64) (h12 : 1 ≤ ba) (h13 : ba ≤ 64) (h14 : 1 ≤ bs) (h15 : ¬ bs ≤ 1048576) : Calls Tryz.prog 47 #[.agg #[.int .i64 o, .int .i64 m, .int .i64 s, .int .i64 b, .int .i64 q, .int .i64 qt, .int .i64 ba, .int .i64 bs, .int .i64 cp, .int .u32 f]] w fun e w' => e = .returned (.bool false) ∧ Below w.heap.size w w' := by
  go_enter Tryz.func47, Tryz.ntmps47
  go_wp2
  go_ret
  exact ⟨by first | rfl | (simp; done) | (simp; omega), (Below.refl _ _).alloc (Nat.le_refl _) _⟩
theorem r47_16 (o m s b q qt ba bs cp f : Int) (w : World) (h0 : 1 ≤ o) (h1 : o ≤ 256) (h2 : 1 ≤ qt) (h3 : qt ≤ 256) (h4 : 1 ≤ m) (h5 : m ≤ 4) (h6 : 1 ≤ s) (h7 : s ≤ 64) (h8 : 1 ≤ b) (h9 : b ≤ 64) (h10 : 1 ≤ q) (h11 : q ≤ 64) (h12 : 1 ≤ ba) (h13 : ba ≤ 64) (h14 : 1 ≤ bs) (h15 : bs ≤ 1048576) (h16 : ¬ bs ≤ cp) : Calls Tryz.prog 47 #[.agg #[.int .i64 o, .int .i64 m, .int .i64 s, .int .i64 b, .int .i64 q, .int .i64 qt, .int .i64 ba, .int .i64 bs, .int .i64 cp, .int .u32 f]] w fun e w' => e = .returned (.bool false) ∧ Below w.heap.size w w' := by
  go_enter Tryz.func47, Tryz.ntmps47
  go_wp2
  go_ret
  exact ⟨by first | rfl | (simp; done) | (simp; omega), (Below.refl _ _).alloc (Nat.le_refl _) _⟩
theorem r47_17 (o m s b q qt ba bs cp f : Int) (w : World) (h0 : 1 ≤ o) (h1 : o ≤ 256) (h2 : 1 ≤ qt) (h3 : qt ≤ 256) (h4 : 1 ≤ m) (h5 : m ≤ 4) (h6 : 1 ≤ s) (h7 : s ≤ 64) (h8 : 1 ≤ b) (h9 : b ≤ 64) (h10 : 1 ≤ q) (h11 : q ≤ 64) (h12 : 1 ≤ ba) (h13 : ba ≤ 64) (h14 : 1 ≤ bs) (h15 : bs ≤ 1048576) (h16 : bs ≤ cp) (h17 : ¬ cp ≤ 1048576) : Calls Tryz.prog 47 #[.agg #[.int .i64 o, .int .i64 m, .int .i64 s, .int .i64 b, .int .i64 q, .int .i64 qt, .int .i64 ba, .int .i64 bs, .int .i64 cp, .int .u32 f]] w fun e w' => e = .returned (.bool false) ∧ Below w.heap.size w w' := by
  go_enter Tryz.func47, Tryz.ntmps47
  go_wp2
  go_ret
  exact ⟨by first | rfl | (simp; done) | (simp; omega), (Below.refl _ _).alloc (Nat.le_refl _) _⟩
theorem r47_18 (o m s b q qt ba bs cp f : Int) (w : World) (h0 : 1 ≤ o) (h1 : o ≤ 256) (h2 : 1 ≤ qt) (h3 : qt ≤ 256) (h4 : 1 ≤ m) (h5 : m ≤ 4) (h6 : 1 ≤ s) (h7 : s ≤ 64) (h8 : 1 ≤ b) (h9 : b ≤ 64) (h10 : 1 ≤ q) (h11 : q ≤ 64) (h12 : 1 ≤ ba) (h13 : ba ≤ 64) (h14 : 1 ≤ bs) (h15 : bs ≤ 1048576) (h16 : bs ≤ cp) (h17 : cp ≤ 1048576) (h18 : ¬ 1 ≤ f) : Calls Tryz.prog 47 #[.agg #[.int .i64 o, .int .i64 m, .int .i64 s, .int .i64 b, .int .i64 q, .int .i64 qt, .int .i64 ba, .int .i64 bs, .int .i64 cp, .int .u32 f]] w fun e w' => e = .returned (.bool false) ∧ Below w.heap.size w w' := by
  go_enter Tryz.func47, Tryz.ntmps47
  go_wp2
  go_ret
  exact ⟨by first | rfl | (simp; done) | (simp; omega), (Below.refl _ _).alloc (Nat.le_refl _) _⟩
theorem r47_19 (o m s b q qt ba bs cp f : Int) (w : World) (h0 : 1 ≤ o) (h1 : o ≤ 256) (h2 : 1 ≤ qt) (h3 : qt ≤ 256) (h4 : 1 ≤ m) (h5 : m ≤ 4) (h6 : 1 ≤ s) (h7 : s ≤ 64) (h8 : 1 ≤ b) (h9 : b ≤ 64) (h10 : 1 ≤ q) (h11 : q ≤ 64) (h12 : 1 ≤ ba) (h13 : ba ≤ 64) (h14 : 1 ≤ bs) (h15 : bs ≤ 1048576) (h16 : bs ≤ cp) (h17 : cp ≤ 1048576) (h18 : 1 ≤ f) : Calls Tryz.prog 47 #[.agg #[.int .i64 o, .int .i64 m, .int .i64 s, .int .i64 b, .int .i64 q, .int .i64 qt, .int .i64 ba, .int .i64 bs, .int .i64 cp, .int .u32 f]] w fun e w' => e = .returned (.bool true) ∧ Below w.heap.size w w' := by
  go_enter Tryz.func47, Tryz.ntmps47
  go_wp2
  go_ret
  exact ⟨by first | rfl | (simp; done) | (simp; omega), (Below.refl _ _).alloc (Nat.le_refl _) _⟩
theorem r47_any (o m s b q qt ba bs cp f : Int) (w : World) : Calls Tryz.prog 47 #[.agg #[.int .i64 o, .int .i64 m, .int .i64 s, .int .i64 b, .int .i64 q, .int .i64 qt, .int .i64 ba, .int .i64 bs, .int .i64 cp, .int .u32 f]] w fun e w' => e = .returned (.bool (validB o m s b q qt ba bs cp f)) ∧ Below w.heap.size w w' := by
  by_cases h0 : ¬ 1 ≤ o
  · have hv : validB o m s b q qt ba bs cp f = false := by
      simp only [validB, inB, backB, Bool.and_eq_false_iff, decide_eq_false_iff_not]
      omega
    rw [hv]; exact r47_0 o m s b q qt ba bs cp f w h0
  have h0 := Decidable.not_not.1 h0
  by_cases h1 : ¬ o ≤ 256
  · have hv : validB o m s b q qt ba bs cp f = false := by
      simp only [validB, inB, backB, Bool.and_eq_false_iff, decide_eq_false_iff_not]
      omega
    rw [hv]; exact r47_1 o m s b q qt ba bs cp f w h0 h1
  have h1 := Decidable.not_not.1 h1
  by_cases h2 : ¬ 1 ≤ qt
  · have hv : validB o m s b q qt ba bs cp f = false := by
      simp only [validB, inB, backB, Bool.and_eq_false_iff, decide_eq_false_iff_not]
      omega
    rw [hv]; exact r47_2 o m s b q qt ba bs cp f w h0 h1 h2
  have h2 := Decidable.not_not.1 h2
  by_cases h3 : ¬ qt ≤ 256
  · have hv : validB o m s b q qt ba bs cp f = false := by
      simp only [validB, inB, backB, Bool.and_eq_false_iff, decide_eq_false_iff_not]
      omega
    rw [hv]; exact r47_3 o m s b q qt ba bs cp f w h0 h1 h2 h3
  have h3 := Decidable.not_not.1 h3
  by_cases h4 : ¬ 1 ≤ m
  · have hv : validB o m s b q qt ba bs cp f = false := by
      simp only [validB, inB, backB, Bool.and_eq_false_iff, decide_eq_false_iff_not]
      omega
    rw [hv]; exact r47_4 o m s b q qt ba bs cp f w h0 h1 h2 h3 h4
  have h4 := Decidable.not_not.1 h4
  by_cases h5 : ¬ m ≤ 4
  · have hv : validB o m s b q qt ba bs cp f = false := by
      simp only [validB, inB, backB, Bool.and_eq_false_iff, decide_eq_false_iff_not]
      omega
    rw [hv]; exact r47_5 o m s b q qt ba bs cp f w h0 h1 h2 h3 h4 h5
  have h5 := Decidable.not_not.1 h5
  by_cases h6 : ¬ 1 ≤ s
  · have hv : validB o m s b q qt ba bs cp f = false := by
      simp only [validB, inB, backB, Bool.and_eq_false_iff, decide_eq_false_iff_not]
      omega
    rw [hv]; exact r47_6 o m s b q qt ba bs cp f w h0 h1 h2 h3 h4 h5 h6
  have h6 := Decidable.not_not.1 h6
  by_cases h7 : ¬ s ≤ 64
  · have hv : validB o m s b q qt ba bs cp f = false := by
      simp only [validB, inB, backB, Bool.and_eq_false_iff, decide_eq_false_iff_not]
      omega
    rw [hv]; exact r47_7 o m s b q qt ba bs cp f w h0 h1 h2 h3 h4 h5 h6 h7
  have h7 := Decidable.not_not.1 h7
  by_cases h8 : ¬ 1 ≤ b
  · have hv : validB o m s b q qt ba bs cp f = false := by
      simp only [validB, inB, backB, Bool.and_eq_false_iff, decide_eq_false_iff_not]
      omega
    rw [hv]; exact r47_8 o m s b q qt ba bs cp f w h0 h1 h2 h3 h4 h5 h6 h7 h8
  have h8 := Decidable.not_not.1 h8
  by_cases h9 : ¬ b ≤ 64
  · have hv : validB o m s b q qt ba bs cp f = false := by
      simp only [validB, inB, backB, Bool.and_eq_false_iff, decide_eq_false_iff_not]
      omega
    rw [hv]; exact r47_9 o m s b q qt ba bs cp f w h0 h1 h2 h3 h4 h5 h6 h7 h8 h9
  have h9 := Decidable.not_not.1 h9
  by_cases h10 : ¬ 1 ≤ q
  · have hv : validB o m s b q qt ba bs cp f = false := by
      simp only [validB, inB, backB, Bool.and_eq_false_iff, decide_eq_false_iff_not]
      omega
    rw [hv]; exact r47_10 o m s b q qt ba bs cp f w h0 h1 h2 h3 h4 h5 h6 h7 h8 h9 h10
  have h10 := Decidable.not_not.1 h10
  by_cases h11 : ¬ q ≤ 64
  · have hv : validB o m s b q qt ba bs cp f = false := by
      simp only [validB, inB, backB, Bool.and_eq_false_iff, decide_eq_false_iff_not]
      omega
    rw [hv]; exact r47_11 o m s b q qt ba bs cp f w h0 h1 h2 h3 h4 h5 h6 h7 h8 h9 h10 h11
  have h11 := Decidable.not_not.1 h11
  by_cases h12 : ¬ 1 ≤ ba
  · have hv : validB o m s b q qt ba bs cp f = false := by
      simp only [validB, inB, backB, Bool.and_eq_false_iff, decide_eq_false_iff_not]
      omega
    rw [hv]; exact r47_12 o m s b q qt ba bs cp f w h0 h1 h2 h3 h4 h5 h6 h7 h8 h9 h10 h11 h12
  have h12 := Decidable.not_not.1 h12
  by_cases h13 : ¬ ba ≤ 64
  · have hv : validB o m s b q qt ba bs cp f = false := by
      simp only [validB, inB, backB, Bool.and_eq_false_iff, decide_eq_false_iff_not]
      omega
    rw [hv]; exact r47_13 o m s b q qt ba bs cp f w h0 h1 h2 h3 h4 h5 h6 h7 h8 h9 h10 h11 h12 h13
  have h13 := Decidable.not_not.1 h13
  by_cases h14 : ¬ 1 ≤ bs
  · have hv : validB o m s b q qt ba bs cp f = false := by
      simp only [validB, inB, backB, Bool.and_eq_false_iff, decide_eq_false_iff_not]
      omega
    rw [hv]; exact r47_14 o m s b q qt ba bs cp f w h0 h1 h2 h3 h4 h5 h6 h7 h8 h9 h10 h11 h12 h13 h14
  have h14 := Decidable.not_not.1 h14
  by_cases h15 : ¬ bs ≤ 1048576
  · have hv : validB o m s b q qt ba bs cp f = false := by
      simp only [validB, inB, backB, Bool.and_eq_false_iff, decide_eq_false_iff_not]
      omega
    rw [hv]; exact r47_15 o m s b q qt ba bs cp f w h0 h1 h2 h3 h4 h5 h6 h7 h8 h9 h10 h11 h12 h13 h14 h15
  have h15 := Decidable.not_not.1 h15
  by_cases h16 : ¬ bs ≤ cp
  · have hv : validB o m s b q qt ba bs cp f = false := by
      simp only [validB, inB, backB, Bool.and_eq_false_iff, decide_eq_false_iff_not]
      omega
    rw [hv]; exact r47_16 o m s b q qt ba bs cp f w h0 h1 h2 h3 h4 h5 h6 h7 h8 h9 h10 h11 h12 h13 h14 h15 h16
  have h16 := Decidable.not_not.1 h16
  by_cases h17 : ¬ cp ≤ 1048576
  · have hv : validB o m s b q qt ba bs cp f = false := by
      simp only [validB, inB, backB, Bool.and_eq_false_iff, decide_eq_false_iff_not]
      omega
    rw [hv]; exact r47_17 o m s b q qt ba bs cp f w h0 h1 h2 h3 h4 h5 h6 h7 h8 h9 h10 h11 h12 h13 h14 h15 h16 h17
  have h17 := Decidable.not_not.1 h17
  by_cases h18 : ¬ 1 ≤ f
  · have hv : validB o m s b q qt ba bs cp f = false := by
      simp only [validB, inB, backB, Bool.and_eq_false_iff, decide_eq_false_iff_not]
      omega
    rw [hv]; exact r47_18 o m s b q qt ba bs cp f w h0 h1 h2 h3 h4 h5 h6 h7 h8 h9 h10 h11 h12 h13 h14 h15 h16 h17 h18
  have h18 := Decidable.not_not.1 h18
  have hv : validB o m s b q qt ba bs cp f = true := by
    simp only [validB, inB, backB, Bool.and_eq_true, decide_eq_true_eq]
    omega
  rw [hv]; exact r47_19 o m s b q qt ba bs cp f w h0 h1 h2 h3 h4 h5 h6 h7 h8 h9 h10 h11 h12 h13 h14 h15 h16 h17 h18
end Go.Proofs
