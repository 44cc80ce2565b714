/- Proved here: the evaluator's operations that make memory answer as the model's: new rows, append, copy. By an AI agent. -/
import Derived.Test.YtmheiipmancjpaaGreatDoorAbC
set_option linter.unusedVariables false
set_option linter.unusedSimpArgs false
section
/-! Slice expressions. -/
namespace Go.Abs
noncomputable section
variable {P : Program} {ρ : Ren} {g : Got} {w : World}

inductive OpR (ρ : Ren) : Option Value → Option Value → Prop
  | none : OpR ρ none none
  | some {v v' : Value} (h : VR ρ v v') : OpR ρ (some v) (some v')

def aBound (v : Value) (y : Nat) : Option Nat := match v with
  | .int _ i => if 0 ≤ i ∧ i ≤ y then some i.toNat else none
  | _ => none

theorem aBound_sound {v v' : Value} {y y' k : Nat} (e : aBound v y = some k) (hv : VR ρ v v') (hy : y ≤ y') (code : BoundsCode) (w : World) :
    (Instr.sliceBound v' y' code).run P w = .ok k w ∧ k ≤ y := by
  unfold aBound at e
  split at e
  · rename_i kd i
    cases hv
    split at e
    · rename_i hi
      simp at e; subst e
      refine ⟨?_, by omega⟩
      have : 0 ≤ i ∧ i ≤ (y' : Int) := ⟨hi.1, by omega⟩
      simp only [Instr.sliceBound, asIntOf, Sem.run_bind, Sem.run_pure, Result.andThen_ok, if_pos this]
    · simp at e
  · simp at e

theorem aBounds_eq (len cap : Nat) (low high mx : Option Value) : aBounds len cap low high mx =
    match (match mx with | some v => aBound v cap | none => some cap) with
    | none => none
    | some m => match (match high with | some v => aBound v m | none => match mx with | none => some len | some _ => none) with
      | none => none
      | some h => match (match low with | some v => aBound v h | none => some 0) with
        | none => none
        | some l => some (l, h, m) := rfl

/-- Bounds within a capacity that is at least what the evaluator knows. -/
theorem aBounds_sound {len cap cap' l h m : Nat} {lo hi mx lo' hi' mx' : Option Value} (e : aBounds len cap lo hi mx = some (l, h, m)) (hl : OpR ρ lo lo') (hh : OpR ρ hi hi') (hm : OpR ρ mx mx')
    (hc : cap ≤ cap') (b : Bool) (w : World) :
    (Instr.sliceBounds b len cap' lo' hi' mx').run P w = .ok (l, h, if mx.isSome then m else cap') w ∧ (mx = none → m = cap) ∧ l ≤ h ∧ m ≤ cap := by
  rw [aBounds_eq] at e
  split at e
  · simp at e
  · rename_i m0 hm0
    split at e
    · simp at e
    · rename_i h0 hh0
      split at e
      · simp at e
      · rename_i l0 hl0
        simp at e
        obtain ⟨rfl, rfl, rfl⟩ := e
        have hlow : ∀ code, ((match lo' with | some v => Instr.sliceBound v h0 code | none => pure 0 : Sem Nat)).run P w = .ok l0 w ∧ l0 ≤ h0 := by
          intro code
          cases hl with
          | none => simp at hl0; subst hl0; exact ⟨rfl, Nat.zero_le _⟩
          | some hv => exact aBound_sound hl0 hv (Nat.le_refl _) code w
        cases hm with
        | none =>
          simp at hm0; subst hm0
          have hhigh : ∀ code, ((match hi' with | some v => Instr.sliceBound v cap' code | none => pure len : Sem Nat)).run P w = .ok h0 w := by
            intro code
            cases hh with
            | none => simp at hh0; subst hh0; rfl
            | some hv => exact (aBound_sound hh0 hv hc code w).1
          refine ⟨?_, fun _ => rfl, (hlow .index).2, Nat.le_refl _⟩
          cases hh with
          | none =>
            have h2 := hhigh .index
            simp at h2; subst h2
            cases hl with
            | none => simp at hl0; subst hl0; simp [Instr.sliceBounds]
            | some hv => have h3 := (hlow .sliceB).1; simp only at h3; simp [Instr.sliceBounds, h3]
          | some hv' =>
            have h2 := hhigh (if b = true then .sliceAcap else .sliceAlen)
            simp only at h2
            cases hl with
            | none => simp at hl0; subst hl0; simp [Instr.sliceBounds, h2]
            | some hv => have h3 := (hlow .sliceB).1; simp only at h3; simp [Instr.sliceBounds, h2, h3]
        | some hmv =>
          have h1 := aBound_sound (P := P) hm0 hmv hc (if b = true then .slice3Acap else .slice3Alen) w
          refine ⟨?_, fun h => by simp at h, (hlow .index).2, h1.2⟩
          cases hh with
          | none => simp at hh0
          | some hv' =>
            have h2 := (aBound_sound (P := P) hh0 hv' (Nat.le_refl _) .slice3B w).1
            cases hl with
            | none => simp at hl0; subst hl0; simp [Instr.sliceBounds, h1.1, h2]
            | some hv => have h3 := (hlow .slice3C).1; simp only at h3; simp [Instr.sliceBounds, h1.1, h2, h3]

theorem capOK_exact {l : Loc} {bn o cap sz : Nat} {opn : Bool} (h : openEnd bn opn sz o cap = false) (h1 : l.n = bn) (h2 : l.opn = opn) (h3 : l.sz = sz) {cap' : Nat} : CapOK l o cap cap' ↔ cap' = cap := by
  unfold CapOK
  rw [if_neg]
  rintro ⟨ho, hn⟩
  rw [h2] at ho; rw [h3, h1] at hn
  simp [openEnd, ho, hn] at h
theorem capOK_open {l : Loc} {bn o cap sz : Nat} {opn : Bool} (h : openEnd bn opn sz o cap = true) (h1 : l.n = bn) (h2 : l.opn = opn) (h3 : l.sz = sz) {cap' : Nat} :
    CapOK l o cap cap' ↔ (l.opn = true ∧ o + cap * sz = bn ∧ o + cap' * sz = l.stop) := by
  unfold CapOK
  simp only [openEnd, Bool.and_eq_true] at h
  have hn : o + cap * sz = bn := Nat.eq_of_beq_eq_true h.2
  rw [if_pos ⟨by rw [h2]; exact h.1, by rw [h3, h1]; exact hn⟩, h3]
  constructor
  · intro h'; exact ⟨by rw [h2]; exact h.1, hn, h'⟩
  · intro h'; exact h'.2.2

theorem cap_le {o cap cap' sz bn stop : Nat} (hs : 1 ≤ sz) (h1 : o + cap * sz = bn) (h2 : o + cap' * sz = stop) (h3 : bn ≤ stop) : cap ≤ cap' := by
  have : cap * sz ≤ cap' * sz := by omega
  exact Nat.le_of_mul_le_mul_right this hs

theorem aSlice_sound {t : TypeId} {x x' : Value} {lo hi mx lo' hi' mx' : Option Value} {h : AHeap} {r : ARes} (e : aSlice P t x lo hi mx h = some r) (H : HQ ρ h.get w) (hx : VR ρ x x')
    (hl : OpR ρ lo lo') (hh : OpR ρ hi hi') (hm : OpR ρ mx mx') : ∃ v v', r = .val v none ∧ (Instr.sliceAt t x' lo' hi' mx').run P w = .ok v' w ∧ VR ρ v v' := by
  have exact_case : ∀ {b o l k m size bn sz : Nat} {opn : Bool} {tr : Trie Value} {el : TypeId} {ro : Bool} {lc : Loc}, h.get b = some (.cells bn tr el ro opn sz) → ρ b = some lc →
      ∀ {r : ARes}, (match openEnd bn opn sz (if m = l then o else o + l * size) (m - l) with
        | true => some (ARes.val top none)
        | false => some (.val (.slice (some ⟨b, (if m = l then o else o + l * size), none⟩) (k - l) (m - l)) none)) = some r →
      ∃ v, r = .val v none ∧ VR ρ v (.slice (some (if m = l then ⟨lc.block, lc.base + o, none⟩ else (⟨lc.block, lc.base + o, none⟩ : Addr).add (l * size))) (k - l) (m - l)) := by
    intro b o l k m size bn sz opn tr el ro lc hb hlc r e
    obtain ⟨h1, h2, h3, _⟩ := H.obj _ _ _ hb hlc
    split at e
    · simp at e; exact ⟨_, e.symm, .top _ rfl⟩
    · rename_i ho
      simp at e
      refine ⟨_, e.symm, ?_⟩
      have : (if m = l then (⟨lc.block, lc.base + o, none⟩ : Addr) else (⟨lc.block, lc.base + o, none⟩ : Addr).add (l * size)) = ⟨lc.block, lc.base + (if m = l then o else o + l * size), none⟩ := by
        split
        · rfl
        · rw [add_at]; congr 1; omega
      rw [this]
      exact .slice hlc ((capOK_exact ho h1 h2 h3).2 rfl)
  unfold aSlice at e
  split at e
  · rename_i s hu
    cases hx
    split at e
    · simp at e
    · cases hm
      split at e
      · rename_i l k m hb
        simp at e
        obtain ⟨h1, h2, _, _⟩ := aBounds_sound (P := P) hb hl hh .none (Nat.le_refl _) false w
        refine ⟨_, _, e.symm, ?_, .string _⟩
        simp only [Instr.sliceAt, Instr.slice, Sem.run_bind, run_underlying hu, Result.andThen_ok]
        simp [h1]
      · simp at e
  · rename_i n elem b o hu
    cases hx with
    | ptr hlc =>
    rename_i lc
    split at e
    · rename_i l k m size bn tr el ro opn sz hbd hsz hb
      obtain ⟨h1, h2, _, _⟩ := aBounds_sound (P := P) hbd hl hh hm (Nat.le_refl _) false w
      have hmm : (if mx.isSome then m else n) = m := by
        cases hmx : mx with
        | none => simp [h2 hmx]
        | some v => simp
      rw [hmm] at h1
      obtain ⟨v, rfl, hv⟩ := exact_case (o := o) (k := k) (size := size) (l := l) (m := m) hb hlc e
      refine ⟨v, _, rfl, ?_, hv⟩
      simp [Instr.sliceAt, Instr.sureAddr, run_underlying hu, h1, run_sizeOf_of hsz]
    · simp at e
  · rename_i el len cap hu
    cases hx
    split at e
    · rename_i l k m sz hb hsz
      simp at e
      obtain ⟨h1, h2, _, _⟩ := aBounds_sound (P := P) hb hl hh hm (Nat.le_refl _) true w
      have hmm : (if mx.isSome then m else cap) = m := by
        cases hmx : mx with
        | none => simp [h2 hmx]
        | some v => simp
      rw [hmm] at h1
      refine ⟨_, _, e.symm, ?_, .sliceNil _ _⟩
      simp only [Instr.sliceAt, Instr.slice, Sem.run_bind, run_underlying hu, Result.andThen_ok]
      simp [h1, run_sizeOf_of hsz]
    · simp at e
  · rename_i elem b o len cap hu
    cases hx with
    | slice hlc hcap =>
    rename_i cap' lc
    split at e
    · rename_i l k m size bn tr el ro opn sz hbd hsz hb
      obtain ⟨g1, g2, g3, g4, _⟩ := H.obj _ _ _ hb hlc
      split at e
      · rename_i ho
        have hcc := (capOK_exact ho g1 g2 g3).1 hcap
        subst hcc
        obtain ⟨h1, h2, _, _⟩ := aBounds_sound (P := P) hbd hl hh hm (Nat.le_refl _) true w
        have hmm : (if mx.isSome then m else cap') = m := by
          cases hmx : mx with
          | none => simp [h2 hmx]
          | some v => simp
        rw [hmm] at h1
        obtain ⟨v, rfl, hv⟩ := exact_case (o := o) (k := k) (size := size) (l := l) (m := m) hb hlc e
        refine ⟨v, _, rfl, ?_, hv⟩
        simp only [Instr.sliceAt, Instr.slice, Sem.run_bind, run_underlying hu, Result.andThen_ok]
        simp only [h1, run_sizeOf_of hsz, Result.andThen_ok, Sem.run_pure]
        split <;> rfl
      · rename_i ho
        obtain ⟨c1, c2, c3⟩ := (capOK_open ho g1 g2 g3).1 hcap
        split at e
        · simp at e
        · rename_i hs
          simp only [Bool.and_eq_true] at hs
          have hss : size = sz := Nat.eq_of_beq_eq_true hs.1
          have hs1 : 1 ≤ sz := Nat.le_of_ble_eq_true hs.2
          have hle := cap_le hs1 c2 c3 g4
          obtain ⟨h1, h2, h3, h4⟩ := aBounds_sound (P := P) hbd hl hh hm hle true w
          split at e
          · -- three indices
            rename_i vmx
            simp at h1
            obtain ⟨v, rfl, hv⟩ := exact_case (o := o) (k := k) (size := size) (l := l) (m := m) hb hlc e
            refine ⟨v, _, rfl, ?_, hv⟩
            simp only [Instr.sliceAt, Instr.slice, Sem.run_bind, run_underlying hu, Result.andThen_ok]
            simp only [h1, run_sizeOf_of hsz, Result.andThen_ok, Sem.run_pure]
            split <;> rfl
          · simp at h1
            have hmc := h2 rfl
            split at e
            · rename_i hlt
              have hlt : l + 1 ≤ cap := Nat.le_of_ble_eq_true hlt
              simp at e
              refine ⟨_, .slice (some ⟨lc.block, lc.base + (o + l * size), none⟩) (k - l) (cap' - l), e.symm, ?_, ?_⟩
              · simp only [Instr.sliceAt, Instr.slice, Sem.run_bind, run_underlying hu, Result.andThen_ok]
                have hne : ¬ cap' = l := by omega
                simp only [h1, run_sizeOf_of hsz, Result.andThen_ok, Sem.run_pure, if_neg hne, Option.map_some, add_at, Nat.add_assoc]
              · refine .slice hlc ?_
                have e1 : (cap - l) * sz + l * sz = cap * sz := by rw [← Nat.add_mul]; congr 1; omega
                have e2 : (cap' - l) * sz + l * sz = cap' * sz := by rw [← Nat.add_mul]; congr 1; omega
                have ho' : openEnd bn opn sz (o + l * size) (cap - l) = true := by
                  simp only [openEnd, Bool.and_eq_true]
                  refine ⟨by rw [← g2]; exact c1, ?_⟩
                  rw [hss]
                  have : o + l * sz + (cap - l) * sz = bn := by omega
                  rw [this]; simp
                refine (capOK_open ho' g1 g2 g3).2 ⟨c1, ?_, ?_⟩
                · rw [hss]; omega
                · rw [hss]; omega
            · split at e
              · rename_i hq
                simp only [Bool.and_eq_true] at hq
                have hlc' : l = cap := Nat.eq_of_beq_eq_true hq.1
                have hkl : k = l := Nat.eq_of_beq_eq_true hq.2
                simp at e
                have e2 : (cap' - l) * sz + l * sz = cap' * sz := by rw [← Nat.add_mul]; congr 1; omega
                refine ⟨_, .slice (some ⟨lc.block, if cap' = l then lc.base + o else lc.base + (o + l * size), none⟩) 0 (cap' - l), e.symm, ?_, ?_⟩
                · simp only [Instr.sliceAt, Instr.slice, Sem.run_bind, run_underlying hu, Result.andThen_ok]
                  simp only [h1, run_sizeOf_of hsz, Result.andThen_ok, Sem.run_pure, Option.map_some, add_at, Nat.add_assoc, hkl, Nat.sub_self]
                  split <;> rfl
                · refine .sliceEnd hlc c1 ?_ ?_ ?_
                  · rw [g1, hss, hlc']; exact c2.symm
                  · rw [hss, g3]; omega
                  · intro hpos
                    rw [if_neg (by omega)]
              · simp at e
    · simp at e
  · rename_i arr b o hu
    cases hx with
    | ptr hlc =>
    rename_i lc
    split at e
    · rename_i n elem hu2
      split at e
      · rename_i l k m size bn tr el ro opn sz hbd hsz hb
        obtain ⟨h1, h2, _, _⟩ := aBounds_sound (P := P) hbd hl hh hm (Nat.le_refl _) false w
        have hmm : (if mx.isSome then m else n) = m := by
          cases hmx : mx with
          | none => simp [h2 hmx]
          | some v => simp
        rw [hmm] at h1
        obtain ⟨v, rfl, hv⟩ := exact_case (o := o) (k := k) (size := size) (l := l) (m := m) hb hlc e
        refine ⟨v, _, rfl, ?_, hv⟩
        simp only [Instr.sliceAt, Instr.slice, Sem.run_bind, run_underlying hu, Result.andThen_ok]
        simp [asAddr, run_underlying hu2, h1, run_sizeOf_of hsz]
      · simp at e
    · simp at e
  · simp at e
end
end Go.Abs
end
section
/-! The evaluator's operations that make memory: new rows, append, copy. -/
namespace Go.Abs
noncomputable section
variable {P : Program} {ρ : Ren} {g : Got} {w : World}

def Fresh (ρ : Ren) (n n' : Nat) : Prop := ∀ i, n ≤ i → i < n' → ρ i = none

/-- A piece of the model yields what the evaluator says, and leaves what it says. -/
def HSim {α : Type} (P : Program) (ρ : Ren) (h : AHeap) (w : World) (R : Ren → α → Prop) (h' : AHeap) (s : Sem α) : Prop :=
  ∃ a w' ρ', s.run P w = .ok a w' ∧ R ρ' a ∧ HR ρ' h'.get w' ∧ Moves ρ h.get h.next w ρ' h'.get h'.next w' ∧ h'.ok

theorem aNew_sound {elem : TypeId} {vs ys : List Value} {h : AHeap} {r : ARes} (e : aNew elem vs h = some r) (H : HR ρ h.get w) (hok : h.ok) (hf : Fresh ρ h.next (h.next + 1)) (hr : LR ρ vs ys) :
    ∃ v h', r = .val v (some h') ∧ h'.next = h.next + 1 ∧ HSim P ρ h w (fun ρ' v' => VR ρ' v v') h' (do pure (.pointer (some (← newRow elem ys.toArray))) : Sem Value) := by
  unfold aNew at e
  split at e
  · simp at e
    obtain ⟨h1, h2, h3⟩ := new_sound H hok (hf _ (Nat.le_refl _) (by omega)) elem vs ys hr false 0 []
    simp only [List.append_nil] at h1 h2
    refine ⟨_, _, e.symm, rfl, .pointer (some ⟨w.heap.size, 0, none⟩), _, _, ?_, ?_, h1, h2, h3⟩
    · simp [newRow]
    · have := VR.ptr (ρ := ρ.upd h.next ⟨w.heap.size, 0, vs.length, vs.length + ([] : List Value).length, 0, false⟩) (b := h.next) (o := 0) (Ren.upd_same _ _ _)
      simpa using this
  · simp at e

/-! ### Zeros -/

theorem VR.default_refl (ρ : Ren) : VR ρ (default : Value) default := .bool _
theorem AR.refl_of {a : Array Value} (h : ∀ v ∈ a.toList, VR ρ v v) : AR ρ a a := by
  unfold AR
  generalize a.toList = l at h
  induction l with
  | nil => exact .nil
  | cons v l ih => exact .cons (h v (by simp)) (ih fun x hx => h x (by simp [hx]))
theorem LR.refl_mem {l l' : List Value} (h : LR ρ l l') (e : l = l') : ∀ v ∈ l, VR ρ v v := by
  have : ∀ (a b : List Value), LR ρ a b → a = b → ∀ v ∈ a, VR ρ v v := by
    intro a b hab
    induction hab with
    | nil => intro _ v hv; simp at hv
    | cons hv ht ih =>
      intro e v hm
      injection e with e1 e2
      simp only [List.mem_cons] at hm
      rcases hm with rfl | hm
      · rw [← e1] at hv; exact hv
      · exact ih e2 v hm
  exact this _ _ h e
theorem zero_mem {t : TypeId} {z : Value} (h : zeroOf P t = some z) : ∀ v ∈ z.cells.toList, VR ρ v v := LR.refl_mem (zeroOf_VR (ρ := ρ) h).cells rfl
theorem getElem!_VR {zero : Array Value} (h : ∀ v ∈ zero.toList, VR ρ v v) (i : Nat) : VR ρ zero[i]! zero[i]! := by
  by_cases hi : i < zero.size
  · rw [getElem!_pos zero i hi]; exact h _ (by simp)
  · rw [getElem!_neg zero i hi]; exact VR.default_refl ρ
theorem cycle_AR {zero : Array Value} (h : ∀ v ∈ zero.toList, VR ρ v v) (n : Nat) : AR ρ ((Array.range n).map (zero[· % zero.size]!)) ((Array.range n).map (zero[· % zero.size]!)) := by
  refine AR.refl_of fun v hv => ?_
  simp only [Array.toList_map, List.mem_map] at hv
  obtain ⟨i, _, rfl⟩ := hv
  exact getElem!_VR h _

theorem aBuildSlice_sound {t : TypeId} {len : Nat} {ps ps' : List (Nat × Value)} {h : AHeap} {r : ARes} (e : aBuildSlice P t len ps h = some r) (H : HR ρ h.get w) (hok : h.ok) (hf : Fresh ρ h.next (h.next + 1)) (hr : PR ρ ps ps') :
    ∃ v h', r = .val v (some h') ∧ h'.next = h.next + 1 ∧ HSim P ρ h w (fun ρ' v' => VR ρ' v v') h' (Instr.buildSlice t len ps'.toArray) := by
  unfold aBuildSlice at e
  split at e
  · rename_i elem hu
    split at e
    · rename_i size z hsz hz
      split at e
      · simp at e
      · rename_i hle
        have hle : len * size ≤ 65536 := Nat.le_of_ble_eq_true hle
        split at e
        · simp at e
        · rename_i cells hfill
          split at e
          · simp at e
            have hzero : ∀ v ∈ (if len * size = 0 then #[] else z.cells : Array Value).toList, VR ρ v v := by
              split
              · simp
              · exact zero_mem hz
            obtain ⟨cs', f1, f2⟩ := fill_sound _ hr (cycle_AR hzero (len * size)) hfill
            have hlen : cells.toList.length = cs'.toList.length := LR.length f2
            obtain ⟨h1, h2, h3⟩ := new_sound H hok (hf _ (Nat.le_refl _) (by omega)) elem cells.toList cs'.toList f2 false 0 []
            simp only [List.append_nil] at h1 h2
            refine ⟨_, _, e.symm, rfl, .slice (some ⟨w.heap.size, 0, none⟩) len len, _, _, ?_, ?_, h1, h2, h3⟩
            · have hnot : ¬ len * size > 2 ^ 24 := by omega
              by_cases h0 : len * size = 0
              · simp only [if_pos h0] at f1
                simp only [Instr.buildSlice, Sem.run_bind, run_underlying hu, Result.andThen_ok, run_sizeOf_of hsz, if_neg hnot, if_pos h0, Sem.run_pure, f1]
                simp [newRow]
              · simp only [if_neg h0] at f1
                simp only [Instr.buildSlice, Sem.run_bind, run_underlying hu, Result.andThen_ok, run_sizeOf_of hsz, if_neg hnot, if_neg h0, run_zeroValue_of hz, Sem.run_pure, f1]
                simp [newRow]
            · have := VR.slice (ρ := ρ.upd h.next ⟨w.heap.size, 0, cells.toList.length, cells.toList.length + ([] : List Value).length, 0, false⟩) (b := h.next) (o := 0) (len := len) (cap := len) (cap' := len) (Ren.upd_same _ _ _) (by simp [CapOK])
              simpa using this
          · simp at e
    · simp at e
  · simp at e

theorem zeroCells_eq (z : Array Value) (n : Nat) : (Array.range (n * z.size)).map (z[· % z.size]!) = Builtin.zeroCells z n := rfl
theorem zeroCells_AR {t : TypeId} {z : Value} (h : zeroOf P t = some z) (n : Nat) : AR ρ (Builtin.zeroCells z.cells n) (Builtin.zeroCells z.cells n) := cycle_AR (zero_mem h) _
theorem zeroCells_size (z : Array Value) (n : Nat) : (Builtin.zeroCells z n).size = n * z.size := by simp [Builtin.zeroCells]

theorem aMakeSlice_sound {t : TypeId} {l c l' c' : Value} {h : AHeap} {r : ARes} (e : aMakeSlice P t l c h = some r) (H : HR ρ h.get w) (hok : h.ok) (hf : Fresh ρ h.next (h.next + 1)) (hl : VR ρ l l') (hc : VR ρ c c') :
    ∃ v h', r = .val v (some h') ∧ h'.next = h.next + 1 ∧ HSim P ρ h w (fun ρ' v' => VR ρ' v v') h' (Instr.makeSlice t l' c') := by
  unfold aMakeSlice at e
  split at e
  · rename_i elem k ln k' cn hu
    cases hl; cases hc
    split at e
    · rename_i i z hi hz
      split at e
      · rename_i hcond
        obtain ⟨c1, c2, c3, c4, c5, c6, c7⟩ := hcond
        simp at e
        have hwl : IntKind.i64.wrap ln = ln := by
          have : (0 : Int) ≤ ln ∧ ln ≤ 2147483648 := ⟨c1, by omega⟩
          simp only [IntKind.wrap, IntKind.bits, IntKind.signed]; simp; omega
        have hwc : IntKind.i64.wrap cn = cn := by
          have : (0 : Int) ≤ cn ∧ cn ≤ 2147483648 := ⟨by omega, c3⟩
          simp only [IntKind.wrap, IntKind.bits, IntKind.signed]; simp; omega
        have hz' : i.zero = some z := by
          unfold zeroOf at hz
          simp only [hi] at hz
          split at hz
          · rename_i z' hzz
            split at hz
            · simp at hz; rw [hzz, hz]
            · simp at hz
          · simp at hz
        obtain ⟨h1, h2, h3⟩ := new_sound H hok (hf _ (Nat.le_refl _) (by omega)) elem (Builtin.zeroCells z.cells cn.toNat).toList (Builtin.zeroCells z.cells cn.toNat).toList (zeroCells_AR hz _) false 0 []
        simp only [List.append_nil] at h1 h2
        refine ⟨_, _, e.symm, rfl, .slice (some ⟨w.heap.size, 0, none⟩) ln.toNat cn.toNat, _, _, ?_, ?_, h1, h2, h3⟩
        · have hprod : (i.bytes : Int) * cn ≤ 4096 * 2147483648 := Int.mul_le_mul (by omega) c3 (by omega) (by omega)
          have hprod' : (i.bytes : Int) * ln ≤ 4096 * 2147483648 := Int.mul_le_mul (by omega) (by omega) c1 (by omega)
          have t1 : (decide (cn < 0) || decide ((i.bytes : Int) * cn > 2 ^ 48)) = false := by
            simp only [Bool.or_eq_false_iff, decide_eq_false_iff_not]; omega
          have t2 : ((decide (cn < 0) || decide ((i.bytes : Int) * cn > 2 ^ 48)) || decide (ln < 0) || decide (ln > cn)) = false := by
            rw [t1]; simp only [Bool.false_or, Bool.or_eq_false_iff, decide_eq_false_iff_not]; omega
          have hcells : (Array.range (cn.toNat * i.size)).map ((if cn.toNat * i.size = 0 then #[] else z.cells)[· % (if cn.toNat * i.size = 0 then #[] else z.cells).size]!) = Builtin.zeroCells z.cells cn.toNat := by
            rw [← c6]
            by_cases h0 : cn.toNat * z.cells.size = 0
            · simp [h0, Builtin.zeroCells]
            · simp only [if_neg h0]; rfl
          have hso : (sizeOf elem).run P w = .ok i.size w := run_sizeOf_of (by simp [sizeAt, hi]) w
          simp only [Instr.makeSlice, asInt, asIntOf, Sem.run_bind, run_underlying hu, Result.andThen_ok, Sem.run_pure, run_typeInfo_of hi, hwl, hwc, t2, Bool.false_eq_true, if_false, run_askRoom, hso]
          by_cases h0 : cn.toNat * i.size = 0
          · simp only [if_pos h0] at hcells
            simp only [if_pos h0, Sem.run_pure, Sem.run_bind, Result.andThen_ok, newRow, hcells]
            simp
          · simp only [if_neg h0] at hcells
            simp only [if_neg h0, Sem.run_pure, Sem.run_bind, run_zeroValue_of hz, Result.andThen_ok, newRow, hcells]
            simp
        · have := VR.slice (ρ := ρ.upd h.next ⟨w.heap.size, 0, (Builtin.zeroCells z.cells cn.toNat).toList.length, (Builtin.zeroCells z.cells cn.toNat).toList.length + ([] : List Value).length, 0, false⟩) (b := h.next) (o := 0) (len := ln.toNat) (cap := cn.toNat) (cap' := cn.toNat) (Ren.upd_same _ _ _) (by simp [CapOK])
          simpa using this
      · simp at e
    · simp at e
  · simp at e
end
end Go.Abs
end
section
/-! append and copy. -/
namespace Go.Abs
noncomputable section
variable {P : Program} {ρ : Ren} {g : Got} {w : World}

theorem HQ.heap_eq {w' : World} (H : HQ ρ g w) (h : w'.heap = w.heap) : HQ ρ g w' := ⟨fun i o l hi hl => by rw [h]; exact H.obj i o l hi hl, H.inj⟩

theorem aLenOf_sound {x x' : Value} {n : Nat} (e : aLenOf x = some n) (hx : VR ρ x x') (w : World) : (Builtin.lenOf x').run P w = .ok n w := by
  unfold aLenOf at e
  split at e
  · simp at e; subst e; cases hx <;> rfl
  · simp at e; subst e; cases hx; rfl
  · simp at e

theorem LR.of_bytes : ∀ l : List UInt8, LR ρ (l.map fun b : UInt8 => .int .u8 b.toNat) (l.map fun b : UInt8 => .int .u8 b.toNat)
  | [] => .nil
  | _ :: l => .cons (.int _ _) (LR.of_bytes l)

theorem aFirst_sound {size n : Nat} {x x' : Value} {h : AHeap} {xs : List Value} (e : aFirst size n x h = some xs) (H : HQ ρ h.get w) (hx : VR ρ x x') :
    ∃ ys : List Value, (∀ w0 : World, w0.heap = w.heap → (Builtin.firstCells size n x').run P w0 = .ok ys.toArray w0) ∧ LR ρ xs ys := by
  unfold aFirst at e
  split at e
  · simp at e; subst e; cases hx; exact ⟨[], fun _ _ => rfl, .nil⟩
  · split at e
    · rename_i hn
      have hn : n = 0 := Nat.eq_of_beq_eq_true hn
      simp at e; subst e
      cases hx
      exact ⟨[], fun _ _ => by subst hn; simp [Builtin.firstCells, loadCells, loadCellsFrom], .nil⟩
    · simp at e
  · split at e
    · rename_i bn tr el ro opn sz hb
      split at e
      · rename_i hle
        cases hx with
        | slice hl hc =>
        rename_i cap' l
        obtain ⟨ys, h1, h2, h3⟩ := (H.obj _ _ _ hb hl).cells (Nat.le_of_ble_eq_true hle) e
        refine ⟨ys, fun w0 hw0 => ?_, h1⟩
        have := run_loadCells_list (P := P) w0 ⟨l.block, l.base + _, none⟩ ys (fun j v hj => by
          rw [add_at]
          have := h3 j v hj
          simpa [World.cell?, hw0] using this)
        rw [h2] at this
        simp only [Builtin.firstCells]; exact this
      · simp at e
    · simp at e
  · rename_i s
    obtain rfl := Option.some.inj e
    cases hx
    refine ⟨(s.extract 0 n).data.toList.map fun b => .int .u8 b.toNat, fun w0 _ => ?_, LR.of_bytes _⟩
    simp only [Builtin.firstCells, Sem.run_pure]
    congr 1
    apply Array.ext'
    simp only [Array.toList_map]
  · simp at e

/-- A BLOCK TAKEN OVER UNDER A NEW NAME. -/
theorem HR.retrack (H : HR ρ g w) {b i : Nat} {o : AObj} (o' : AObj) {l k : Loc} (hb : g b = some o) (hl : ρ b = some l) (hro : o.ro = false) (hf : ρ i = none) (hk : k.block = l.block)
    {w' : World} (hs : w'.heap.size = w.heap.size) (hoth : ∀ B, B ≠ l.block → w'.heap[B]? = w.heap[B]?) (hor : OR (ρ.upd i k) o' k w'.heap[l.block]?) {g1 : Got} (hg1 : ∀ j x, g1 j = some x → j ≠ b ∧ g j = some x) (he : w'.os = w.os ∧ w'.output = w.output := by exact ⟨rfl, rfl⟩) :
    HR (ρ.upd i k) (g1.upd i o') w' ∧ Moves ρ g i w (ρ.upd i k) (g1.upd i o') (i + 1) w' := by
  have hle : ρ.le (ρ.upd i k) := Ren.le_upd hf
  have hne : ∀ j x m, g1 j = some x → (ρ.upd i k) j = some m → j ≠ i → ρ j = some m := by
    intro j x m _ hm hj
    simpa [Ren.upd, hj] using hm
  constructor
  · refine ⟨fun j x hj => ?_, fun a c oa oc la lc ha hc hla hlc hac => ?_⟩
    · unfold Got.upd at hj
      by_cases e : j = i
      · rw [if_pos e] at hj; cases hj
        exact ⟨k, by rw [e, Ren.upd_same], by rw [hk]; exact hor⟩
      · rw [if_neg e] at hj
        obtain ⟨hjb, hgj⟩ := hg1 j x hj
        obtain ⟨m, hm, hom⟩ := H.obj j x hgj
        refine ⟨m, hle _ _ hm, ?_⟩
        rw [hoth m.block (H.inj j b _ _ _ _ hgj hb hm hl hjb)]
        exact hom.mono hle
    · unfold Got.upd at ha hc
      by_cases ea : a = i
      · have ec : c ≠ i := fun ec => hac (ea.trans ec.symm)
        rw [if_neg ec] at hc
        obtain ⟨hcb, hgc⟩ := hg1 c _ hc
        have hlc' := hne c _ _ hc hlc ec
        rw [ea, Ren.upd_same] at hla; cases hla
        rw [hk]
        exact fun e => H.inj c b _ _ _ _ hgc hb hlc' hl hcb e.symm
      · rw [if_neg ea] at ha
        obtain ⟨hab, hga⟩ := hg1 a _ ha
        have hla' := hne a _ _ ha hla ea
        by_cases ec : c = i
        · rw [ec, Ren.upd_same] at hlc; cases hlc
          rw [hk]
          exact H.inj a b _ _ _ _ hga hb hla' hl hab
        · rw [if_neg ec] at hc
          obtain ⟨_, hgc⟩ := hg1 c _ hc
          exact H.inj a c _ _ _ _ hga hgc hla' (hne c _ _ hc hlc ec) hac
  · refine ⟨hle, fun j hj => ?_, by omega, by omega, fun B _ hn => hoth B fun e => hn ⟨b, o, l, hb, hl, e.symm, hro⟩, fun B hB hw => ?_, fun B hB hw => ?_, he.1, he.2⟩
    · unfold Ren.upd at hj
      by_cases e : j = i
      · right; omega
      · rw [if_neg e] at hj; exact .inl hj
    · obtain ⟨j, x, m, hj, hm, hmB, hr⟩ := hw
      unfold Got.upd at hj
      by_cases e : j = i
      · rw [e, Ren.upd_same] at hm; cases hm
        exact ⟨b, o, l, hb, hl, by rw [← hk]; exact hmB, hro⟩
      · rw [if_neg e] at hj
        exact ⟨j, x, m, (hg1 j x hj).2, hne j _ _ hj hm e, hmB, hr⟩
    · obtain ⟨j, x, m, hj, hm, hmB⟩ := hw
      unfold Got.upd at hj
      by_cases e : j = i
      · rw [e, Ren.upd_same] at hm; cases hm
        exact ⟨b, o, l, hb, hl, by rw [← hk]; exact hmB⟩
      · rw [if_neg e] at hj
        exact ⟨j, x, m, (hg1 j x hj).2, hne j _ _ hj hm e, hmB⟩

theorem growBy_le (newLen : Nat) : ∀ r c, c ≤ 2 * newLen + 192 → Builtin.growBy newLen r c ≤ 2 * newLen + 192 := by
  intro r
  induction r with
  | zero => intro c h; exact h
  | succ r ih =>
    intro c h
    simp only [Builtin.growBy]
    split
    · exact h
    · exact ih _ (by omega)
theorem nextslicecap_le {need cap : Nat} (h : cap < need) : Builtin.nextslicecap need cap ≤ 2 * need + 192 := by
  unfold Builtin.nextslicecap
  split
  · omega
  · split
    · omega
    · exact growBy_le _ _ _ (by omega)

theorem cut_ge (need old : Nat) (elem : TypeId) (t : Nat) : need ≤ (Question.appendCap need old elem).cut t := by simp [Question.cut]

/-- append WHERE THE ROW IS MADE ANEW. -/
theorem run_append_new {sType xType elem ty : TypeId} {argTypes : Array TypeId} {args : Array Value} (hA0 : argTypes[0]? = some sType) (hA1 : argTypes[1]? = some xType) {ux : TypeDesc} (hs : P.underlying sType = some (.slice elem)) (hx : P.underlying xType = some ux) (hnx : (∃ e', ux = .slice e') ∨ ux = .string) {i : TypeInfo} (hi : P.info? elem = some i)
    {z : Value} (hz : zeroOf P elem = some z) {base : Option Addr} {len cap n : Nat} {x : Value} (ha0 : args[0]? = some (.slice base len cap)) (ha1 : args[1]? = some x) (hn : ∀ w0 : World, (Builtin.lenOf x).run P w0 = .ok n w0) (hcap : cap < len + n) (hneed : len + n ≤ 2147483648) (hbytes : i.bytes ≤ 4096)
    {old new : List Value} (hold : ∀ w0 : World, w0.heap = w.heap → (Builtin.firstCells i.size len (.slice base len cap)).run P w0 = .ok old.toArray w0)
    (hnew : ∀ w0 : World, w0.heap = w.heap → (Builtin.firstCells i.size n x).run P w0 = .ok new.toArray w0) :
    ∃ (newCap : Nat) (w0 : World), len + n ≤ newCap ∧ w0.heap = w.heap ∧ (w0.os = w.os ∧ w0.output = w.output) ∧ (Builtin.append_ argTypes ty args).run P w =
      .ok (.slice (some ⟨w.heap.size, 0, none⟩) (len + n) newCap) (w0.alloc (.cells ((old ++ new) ++ (Builtin.zeroCells z.cells (newCap - (len + n))).toList).toArray elem)) := by
  refine ⟨(Question.appendCap (len + n) cap elem).cut (w.tape w.drawn (.appendCap (len + n) cap elem)), w.drew, cut_ge _ _ _ _, rfl, ⟨rfl, rfl⟩, ?_⟩
  have hso : ∀ w0 : World, (sizeOf elem).run P w0 = .ok i.size w0 := fun w0 => run_sizeOf_of (by simp [sizeAt, hi]) w0
  have h1 : ¬ len + n ≤ cap := by omega
  have h2 : ¬ (((len + n : Nat) : Int) > IntKind.i64.max ∧ (False ∨ i.bytes = 0)) := by
    rintro ⟨h, _⟩
    have : IntKind.i64.max = 9223372036854775807 := by decide
    omega
  have h3 : ¬ Builtin.nextslicecap (len + n) cap * i.bytes > 2 ^ 48 := by
    have h4 := nextslicecap_le hcap
    have h5 : Builtin.nextslicecap (len + n) cap * i.bytes ≤ (2 * 2147483648 + 192) * 4096 := Nat.mul_le_mul (by omega) hbytes
    omega
  have hf : (Question.appendCap (len + n) cap elem).forced = false := rfl
  have ho := hold w.drew rfl
  have hnw := hnew w.drew rfl
  rcases hnx with ⟨e', rfl⟩ | rfl
  all_goals
    simp only [Builtin.append_, hA0, hA1, ha0, ha1, Sem.run_bind, run_underlying hs, run_underlying hx, Result.andThen_ok, hso, Sem.run_pure, Bool.false_eq_true, if_false, hn]
    simp only [if_neg h1, run_typeInfo_of hi, Sem.run_bind, Result.andThen_ok, if_neg h2]
    simp only [run_typeInfo_of hi, Sem.run_bind, Result.andThen_ok, if_neg h3, run_choose, hf, Bool.false_eq_true, if_false, World.drew_eq, run_askRoom, ho, Bool.not_false, if_true, hnw, run_zeroValue_of hz, newRow, run_newObj, Sem.run_pure, World.alloc_eq]
    congr 3
    apply Array.ext'
    simp

/-- append WHERE THERE IS ROOM. -/
theorem run_append_room' {sType xType elem ty : TypeId} {argTypes : Array TypeId} {args : Array Value} (hA0 : argTypes[0]? = some sType) (hA1 : argTypes[1]? = some xType) {ux : TypeDesc} (hs : P.underlying sType = some (.slice elem)) (hx : P.underlying xType = some ux) (hnx : (∃ e', ux = .slice e') ∨ ux = .string) {i : TypeInfo} (hi : P.info? elem = some i)
    {b o : Nat} {len cap n : Nat} {x : Value} (ha0 : args[0]? = some (.slice (some ⟨b, o, none⟩) len cap)) (ha1 : args[1]? = some x) (hn : (Builtin.lenOf x).run P w = .ok n w) (hcap : len + n ≤ cap)
    {new : List Value} (hnew : (Builtin.firstCells i.size n x).run P w = .ok new.toArray w) {w' : World} (hst : (storeCells ⟨b, o + len * i.size, none⟩ new).run P w = .ok () w') :
    (Builtin.append_ argTypes ty args).run P w = .ok (.slice (some ⟨b, o, none⟩) (len + n) cap) w' := by
  have hso : ∀ w0 : World, (sizeOf elem).run P w0 = .ok i.size w0 := fun w0 => run_sizeOf_of (by simp [sizeAt, hi]) w0
  rcases hnx with ⟨e', rfl⟩ | rfl
  all_goals
    simp only [Builtin.append_, hA0, hA1, ha0, ha1, Sem.run_bind, run_underlying hs, run_underlying hx, Result.andThen_ok, hso, Sem.run_pure, Bool.false_eq_true, if_false, hn]
    simp only [if_pos hcap, Sem.run_bind, Bool.not_false, if_true, hnew, Result.andThen_ok, add_at, hst, Sem.run_pure]
theorem run_append_nothing {sType xType elem ty : TypeId} {argTypes : Array TypeId} {args : Array Value} (hA0 : argTypes[0]? = some sType) (hA1 : argTypes[1]? = some xType) {ux : TypeDesc} (hs : P.underlying sType = some (.slice elem)) (hx : P.underlying xType = some ux) (hnx : (∃ e', ux = .slice e') ∨ ux = .string) {i : TypeInfo} (hi : P.info? elem = some i)
    {len cap : Nat} {x : Value} (ha0 : args[0]? = some (.slice none len cap)) (ha1 : args[1]? = some x) (hn : (Builtin.lenOf x).run P w = .ok 0 w) (hcap : len ≤ cap)
    {new : List Value} (hnew : (Builtin.firstCells i.size 0 x).run P w = .ok new.toArray w) :
    (Builtin.append_ argTypes ty args).run P w = .ok (.slice none len cap) w := by
  have hso : ∀ w0 : World, (sizeOf elem).run P w0 = .ok i.size w0 := fun w0 => run_sizeOf_of (by simp [sizeAt, hi]) w0
  rcases hnx with ⟨e', rfl⟩ | rfl
  all_goals
    simp only [Builtin.append_, hA0, hA1, ha0, ha1, Sem.run_bind, run_underlying hs, run_underlying hx, Result.andThen_ok, hso, Sem.run_pure, Bool.false_eq_true, if_false, hn, Nat.add_zero]
    simp only [if_pos hcap, Sem.run_bind, Bool.not_false, if_true, hnew, Result.andThen_ok, Sem.run_pure]

theorem HR.cellsOf (H : HR ρ g w) {b : Nat} {n : Nat} {tr : Trie Value} {el : TypeId} {ro opn : Bool} {sz : Nat} (hb : g b = some (.cells n tr el ro opn sz)) {l : Loc} (hl : ρ b = some l) {o m : Nat} {xs : List Value} (ho : o + m ≤ n) (ht : tr.take o m = some xs) :
    ∃ ys : List Value, LR ρ xs ys ∧ ∀ w0 : World, w0.heap = w.heap → (loadCells ⟨l.block, l.base + o, none⟩ m).run P w0 = .ok ys.toArray w0 := by
  obtain ⟨ys, h1, h2, h3⟩ := (H.get hb hl).cells ho ht
  refine ⟨ys, h1, fun w0 hw0 => ?_⟩
  have := run_loadCells_list (P := P) w0 ⟨l.block, l.base + o, none⟩ ys (fun j v hj => by
    rw [add_at]
    have := h3 j v hj
    simpa [World.cell?, hw0] using this)
  rw [h2] at this
  exact this

/-- What append leaves where the row was made anew. -/
theorem new_open_sound {h : AHeap} (H : HR ρ h.get w) (hok : h.ok) (hf : ρ h.next = none) (elem : TypeId) {i : TypeInfo} {z : Value} (hzs : z.cells.size = i.size) (xs ys : List Value) (hr : LR ρ xs ys) {need newCap : Nat} (hlen : xs.length = need * i.size) (hge : need ≤ newCap)
    {w0 : World} (hw0 : w0.heap = w.heap) (he : w0.os = w.os ∧ w0.output = w.output := by exact ⟨rfl, rfl⟩) :
    ∃ ρ', VR ρ' (.slice (some ⟨h.next, 0, none⟩) need need) (.slice (some ⟨w.heap.size, 0, none⟩) need newCap) ∧ HR ρ' (h.add (mkOpen elem xs i.size)).get (w0.alloc (.cells (ys ++ (Builtin.zeroCells z.cells (newCap - need)).toList).toArray elem)) ∧
      Moves ρ h.get h.next w ρ' (h.add (mkOpen elem xs i.size)).get (h.next + 1) (w0.alloc (.cells (ys ++ (Builtin.zeroCells z.cells (newCap - need)).toList).toArray elem)) ∧ (h.add (mkOpen elem xs i.size)).ok := by
  have H0 : HR ρ h.get w0 := H.heap_eq hw0
  obtain ⟨h1, h2, h3⟩ := new_sound H0 hok hf elem xs ys hr true i.size (Builtin.zeroCells z.cells (newCap - need)).toList
  have hsz : w0.heap.size = w.heap.size := by rw [hw0]
  refine ⟨_, ?_, h1, ⟨h2.le, h2.dom, h2.next, by rw [← hsz]; exact h2.size, fun B hB hn => by rw [h2.keep B (by rw [hsz]; exact hB) hn, hw0], fun B hB hw => h2.wr B (by rw [hsz]; exact hB) hw, fun B hB hw => h2.tr B (by rw [hsz]; exact hB) hw, h2.os.trans he.1, h2.out.trans he.2⟩, h3⟩
  have := VR.slice (ρ := ρ.upd h.next ⟨w0.heap.size, 0, xs.length, xs.length + (Builtin.zeroCells z.cells (newCap - need)).toList.length, i.size, true⟩) (b := h.next) (o := 0) (len := need) (cap := need) (cap' := newCap) (Ren.upd_same _ _ _) (by
    unfold CapOK
    have hl : (Builtin.zeroCells z.cells (newCap - need)).toList.length = (newCap - need) * i.size := by rw [Array.length_toList, zeroCells_size, hzs]
    simp only [hl, hlen, Nat.zero_add, and_self, if_true]
    rw [← Nat.add_mul]; congr 1; omega)
  simpa [hsz] using this

def HeapRes {α : Type} (P : Program) (ρ : Ren) (h : AHeap) (w : World) (r : ARes) (R : Value → Ren → α → Prop) (s : Sem α) : Prop :=
  (∃ v a, r = .val v none ∧ s.run P w = .ok a w ∧ R v ρ a) ∨ (∃ v h', r = .val v (some h') ∧ HSim P ρ h w (R v) h' s)
def FreshFor (ρ : Ren) (h : AHeap) (r : ARes) : Prop := ∀ v h', r = .val v (some h') → Fresh ρ h.next h'.next
abbrev VRel : Value → Ren → Value → Prop := fun v ρ v' => VR ρ v v'

theorem FreshFor.one {h : AHeap} {v : Value} {o : AObj} (hf : FreshFor ρ h (.val v (some (h.add o)))) : ρ h.next = none := hf v _ rfl _ (Nat.le_refl _) (by simp [AHeap.add])

/-- The row behind a slice whose end is open is made anew, or taken over. -/
theorem append_open_sound {h : AHeap} (H : HR ρ h.get w) (hok : h.ok) (hf : ρ h.next = none) {b bn : Nat} {tr : Trie Value} {elem : TypeId} {sz : Nat} (hb : h.get b = some (.cells bn tr elem false true sz)) {l : Loc} (hl : ρ b = some l)
    {o len : Nat} {old new new' : List Value} (hrn : LR ρ new new') (hol : old.length = len * sz) {need : Nat} (hlen : (old ++ new).length = need * sz)
    (hold : ∀ j v, old[j]? = some v → tr.get (o + j) = some v) (hob : o + len * sz ≤ bn) (hns : new.all single = true) {cap' : Nat} (hcap : o + cap' * sz = l.stop) (hroom : need ≤ cap') (h1 : AHeap) (hh1 : h1 = h.del b) :
    ∃ w' ρ', (storeCells ⟨l.block, l.base + o + len * sz, none⟩ new').run P w = .ok () w' ∧ VR ρ' (.slice (some ⟨h1.next, 0, none⟩) need need) (.slice (some ⟨l.block, l.base + o, none⟩) need cap') ∧
      HR ρ' (h1.add (mkOpen elem (old ++ new) sz)).get w' ∧ Moves ρ h.get h.next w ρ' (h1.add (mkOpen elem (old ++ new) sz)).get (h1.add (mkOpen elem (old ++ new) sz)).next w' ∧ (h1.add (mkOpen elem (old ++ new) sz)).ok := by
  subst hh1
  obtain ⟨g1, g2, g3, g4, arr, ha, hsz, hc⟩ := H.get hb hl
  have hnl := hrn.length
  have hnsz : need * sz ≤ cap' * sz := Nat.mul_le_mul_right _ hroom
  have hlen' : len * sz + new.length = need * sz := by simpa [hol] using hlen
  have hrun := run_storeCells_at P l.block (l.base + o + len * sz) elem new' 0 arr w ha (by omega) (all_single hrn hns)
  have hnx : (h.del b).next = h.next := rfl
  refine ⟨_, ρ.upd h.next ⟨l.block, l.base + o, need * sz, l.stop - o, sz, true⟩, hrun, ?_, ?_⟩
  · have := VR.slice (ρ := ρ.upd h.next ⟨l.block, l.base + o, need * sz, l.stop - o, sz, true⟩) (b := h.next) (o := 0) (len := need) (cap := need) (cap' := cap') (Ren.upd_same _ _ _) (by
      unfold CapOK; simp; omega)
    rw [hnx]
    simpa using this
  · have hsz' : (arr.toList.take (l.base + o + len * sz + 0) ++ new' ++ arr.toList.drop (l.base + o + len * sz + 0 + new'.length)).toArray.size = arr.size := by simp; omega
    have hmain := H.retrack (i := h.next) (mkOpen elem (old ++ new) sz) (k := ⟨l.block, l.base + o, need * sz, l.stop - o, sz, true⟩) hb hl rfl hf rfl
      (w' := w.setRow l.block (arr.toList.take (l.base + o + len * sz + 0) ++ new' ++ arr.toList.drop (l.base + o + len * sz + 0 + new'.length)).toArray) (setRow_size _ _ _) (fun B hB => setRow_other _ _ _ _ hB)
      (by
        refine ⟨hlen.symm, rfl, rfl, by rw [hlen]; simp only; omega, _, setRow_heap w l.block arr _ elem (0, 0) ha, by rw [hsz']; simp only; omega, fun i v hi hv => ?_⟩
        rw [Trie.get_ofList] at hv
        simp only [List.getElem?_toArray, Nat.add_zero]
        rcases Nat.lt_or_ge i old.length with hlt | hge
        · rw [List.getElem?_append_left hlt] at hv
          obtain ⟨v', e, r⟩ := hc (o + i) v (by omega) (hold i v hv)
          refine ⟨v', ?_, r.mono (Ren.le_upd hf)⟩
          rw [List.append_assoc, List.getElem?_append_left (by simp; omega), List.getElem?_take_of_lt (by omega)]
          rw [← e]; simp [Nat.add_assoc]
        · rw [List.getElem?_append_right hge] at hv
          obtain ⟨v', e, r⟩ := hrn.get hv
          refine ⟨v', ?_, r.mono (Ren.le_upd hf)⟩
          have hlt : i - old.length < new'.length := by
            have := (List.getElem?_eq_some_iff.1 e).1; exact this
          rw [List.append_assoc, List.getElem?_append_right (by simp; omega)]
          rw [List.getElem?_append_left (by simp; omega)]
          rw [← e]; congr 1; simp; omega)
      (g1 := (h.del b).get) (fun j x hj => by
        rw [AHeap.get_del] at hj
        by_cases e : j = b
        · simp [e] at hj
        · rw [if_neg e] at hj; exact ⟨e, hj⟩)
    refine ⟨by rw [AHeap.get_add']; exact hmain.1, by rw [AHeap.get_add']; exact hmain.2, (hok.del b).add _⟩

theorem Trie.take_getD {tr : Trie Value} {o m : Nat} {xs : List Value} (h : tr.take o m = some xs) : xs.length = m ∧ ∀ j v, xs[j]? = some v → tr.get (o + j) = some v := by
  obtain ⟨h1, h2⟩ := Trie.take_some h
  refine ⟨h1, fun j v hj => ?_⟩
  have hlt : j < xs.length := (List.getElem?_eq_some_iff.1 hj).1
  rw [h2 j (by omega), hj]

theorem aAppend_sound {argTypes : Array TypeId} {ty : TypeId} {args args' : Array Value} {h : AHeap} {r : ARes} (e : aAppend P argTypes args h = some r) (H : HR ρ h.get w) (hok : h.ok) (hf : FreshFor ρ h r) (ha : AR ρ args args') :
    HeapRes P ρ h w r VRel (Builtin.append_ argTypes ty args') := by
  unfold aAppend at e
  split at e
  · rename_i sType xType base len cap x hA0 hA1 ha0 ha1
    obtain ⟨s', hs', hrs⟩ := ha.get ha0
    obtain ⟨x', hx', hrx⟩ := ha.get ha1
    split at e
    · -- zeros
      rename_i elem k hs hx
      split at e
      · rename_i i z k' l hi hz
        split at e
        · rename_i hc
          obtain ⟨c1, c2, c3, c4, c5, c6, c7, c8⟩ := hc
          simp at e; subst e
          cases hrs; cases hrx
          subst c5; subst c6
          right
          refine ⟨_, _, rfl, ?_⟩
          have hwl : IntKind.i64.wrap l = l := by
            simp only [IntKind.wrap, IntKind.bits, IntKind.signed]; simp; omega
          have hso : ∀ w0 : World, (sizeOf elem).run P w0 = .ok i.size w0 := fun w0 => run_sizeOf_of (by simp [sizeAt, hi]) w0
          have hprod : l * (i.bytes : Int) ≤ 2147483648 * 4096 := Int.mul_le_mul c2 (by omega) (by omega) (by omega)
          have h1 : ¬ 0 + l.toNat ≤ 0 := by omega
          have h2 : ¬ (((0 + l.toNat : Nat) : Int) > IntKind.i64.max ∧ (True ∨ i.bytes = 0)) := by
            rintro ⟨h, _⟩
            have : IntKind.i64.max = 9223372036854775807 := by decide
            omega
          have h3 : ¬ Builtin.nextslicecap (0 + l.toNat) 0 * i.bytes > 2 ^ 48 := by
            have h4 := nextslicecap_le (need := 0 + l.toNat) (cap := 0) (by omega)
            have h5 : Builtin.nextslicecap (0 + l.toNat) 0 * i.bytes ≤ (2 * 2147483648 + 192) * 4096 := Nat.mul_le_mul (by omega) c4
            omega
          have hfo : (Question.appendCap (0 + l.toNat) 0 elem).forced = false := rfl
          have hl0 : ¬ l < 0 := by omega
          have hl1 : ¬ l * (i.bytes : Int) > 2 ^ 48 := by omega
          have hsz0 : ¬ l.toNat * i.size = 0 := by
            have : 1 ≤ l.toNat := by omega
            have := Nat.mul_le_mul this c3
            omega
          have hrun : ∃ (newCap : Nat) (w0 : World), l.toNat ≤ newCap ∧ w0.heap = w.heap ∧ (w0.os = w.os ∧ w0.output = w.output) ∧ (Builtin.append_ argTypes ty args').run P w = .ok (.slice (some ⟨w.heap.size, 0, none⟩) l.toNat newCap)
              (w0.alloc (.cells ((Builtin.zeroCells z.cells l.toNat).toList ++ (Builtin.zeroCells z.cells (newCap - l.toNat)).toList).toArray elem)) := by
            refine ⟨(Question.appendCap (0 + l.toNat) 0 elem).cut (w.tape w.drawn (.appendCap (0 + l.toNat) 0 elem)), w.drew, by have := cut_ge (0 + l.toNat) 0 elem (w.tape w.drawn (.appendCap (0 + l.toNat) 0 elem)); omega, rfl, ⟨rfl, rfl⟩, ?_⟩
            simp only [Builtin.append_, hA0, hA1, hs', hx', Sem.run_bind, run_underlying hs, run_underlying hx, Result.andThen_ok, hso, Sem.run_pure, if_true, asInt, asIntOf, hwl, if_neg hl0, run_typeInfo_of hi, if_neg hl1]
            simp only [if_neg h1, run_typeInfo_of hi, Sem.run_bind, Result.andThen_ok, if_neg h2]
            simp only [run_typeInfo_of hi, Sem.run_bind, Result.andThen_ok, if_neg h3, run_choose, hfo, Bool.false_eq_true, if_false, World.drew_eq, run_askRoom, Bool.not_true, if_neg hsz0, Builtin.firstCells, Sem.run_pure, run_zeroValue_of hz, newRow, run_newObj, World.alloc_eq]
            simp
            congr 2
            apply Array.ext'
            simp
          obtain ⟨newCap, w0, hge, hw0, he0, hrun⟩ := hrun
          obtain ⟨ρ', q1, q2, q3, q4⟩ := new_open_sound H hok hf.one elem (i := i) c7 (Builtin.zeroCells z.cells l.toNat).toList _ (zeroCells_AR hz l.toNat) (need := l.toNat) (newCap := newCap) (by rw [Array.length_toList, zeroCells_size, c7]) hge hw0 he0
          exact ⟨_, _, ρ', hrun, q1, q2, q3, q4⟩
        · simp at e
      · simp at e
    · rename_i elem ux hnint hs hx
      split at e
      · rename_i i n hi hn
        have hux : ((∃ e', ux = .slice e') ∨ ux = .string) ∧ aLenOf x = some n := by
          split at hn
          · exact ⟨.inl ⟨_, rfl⟩, hn⟩
          · exact ⟨.inr rfl, hn⟩
          · simp at hn
        obtain ⟨hux, hn⟩ := hux
        cases hchk : (Nat.ble 1 i.size && Nat.ble (len + n) 2147483648 && Nat.ble i.bytes 4096 && zeroFits P elem i.size) with
        | false => simp [hchk] at e
        | true =>
          simp only [hchk] at e
          simp only [Bool.and_eq_true] at hchk
          obtain ⟨⟨⟨k1, k2⟩, k3⟩, k4⟩ := hchk
          have k1 : 1 ≤ i.size := Nat.le_of_ble_eq_true k1
          have k2 : len + n ≤ 2147483648 := Nat.le_of_ble_eq_true k2
          have k3 : i.bytes ≤ 4096 := Nat.le_of_ble_eq_true k3
          obtain ⟨z, hz, hzs⟩ : ∃ z, zeroOf P elem = some z ∧ z.cells.size = i.size := by
            unfold zeroFits at k4
            split at k4
            · rename_i z hz; exact ⟨z, hz, Nat.eq_of_beq_eq_true k4⟩
            · simp at k4
          split at e
          · simp at e
          · rename_i new hfirst
            have hlenx : ∀ w0 : World, (Builtin.lenOf x').run P w0 = .ok n w0 := fun w0 => aLenOf_sound hn hrx w0
            obtain ⟨new', hnew', hrnew⟩ := aFirst_sound (P := P) hfirst H.quiet hrx
            have hso : sizeAt P elem = some i.size := by simp [sizeAt, hi]
            split at e
            · -- a nil slice
              cases hrs
              split at e
              · rename_i hle
                split at e
                · rename_i hn0
                  have hn0 : n = 0 := Nat.eq_of_beq_eq_true hn0
                  subst hn0
                  simp at e; subst e
                  left
                  exact ⟨_, _, rfl, run_append_nothing hA0 hA1 hs hx hux hi hs' hx' (hlenx w) (by have := Nat.le_of_ble_eq_true hle; omega) (hnew' w rfl), .sliceNil _ _⟩
                · simp at e
              · rename_i hle
                have hle : cap < len + n := Nat.lt_of_not_le fun h => by rw [Nat.ble_eq_true_of_le h] at hle; cases hle
                split at e
                · rename_i hl
                  simp only [Bool.and_eq_true] at hl
                  have hl0 : len = 0 := Nat.eq_of_beq_eq_true hl.1
                  have hl1 : new.length = (len + n) * i.size := Nat.eq_of_beq_eq_true hl.2
                  simp at e; subst e
                  right
                  obtain ⟨newCap, w0, hge, hw0, he0, hrun⟩ := run_append_new (ty := ty) hA0 hA1 hs hx hux hi hz hs' hx' hlenx hle k2 k3 (old := []) (new := new') (fun w0 _ => rfl) hnew'
                  obtain ⟨ρ', q1, q2, q3, q4⟩ := new_open_sound H hok hf.one elem hzs new ([] ++ new') hrnew hl1 hge hw0 he0
                  exact ⟨_, _, rfl, _, _, ρ', hrun, q1, q2, q3, q4⟩
                · simp at e
            · -- a row
              rename_i b o
              cases hrs with
              | slice hl hc =>
              rename_i cap' l
              split at e
              · rename_i bn tr el ro opn sz hb
                obtain ⟨g1, g2, g3, g4, _⟩ := H.get hb hl
                split at e
                · rename_i hle
                  have hle : len + n ≤ cap := Nat.le_of_ble_eq_true hle
                  split at e
                  · simp at e
                  · rename_i hck
                    simp only [Bool.or_eq_false_iff, Bool.not_eq_false'] at hck
                    obtain ⟨⟨⟨⟨c1, c2⟩, c3⟩, c4⟩, c5⟩ := hck
                    subst c1
                    have c2 : o + (len + n) * i.size ≤ bn := Nat.le_of_ble_eq_true c2
                    have c3 : new.length = n * i.size := Nat.eq_of_beq_eq_true c3
                    simp at e; subst e
                    right
                    have hroom : len + n ≤ cap' := by
                      cases hoe : openEnd bn opn sz o cap with
                      | false => rw [(capOK_exact hoe g1 g2 g3).1 hc]; exact hle
                      | true =>
                        obtain ⟨d1, d2, d3⟩ := (capOK_open hoe g1 g2 g3).1 hc
                        have hs1 : 1 ≤ sz := by
                          rw [← g2, d1] at c5
                          simp at c5
                          cases sz with
                          | zero => simp at c5
                          | succ k => omega
                        exact Nat.le_trans hle (cap_le hs1 d2 d3 g4)
                    have hfit : o + len * i.size + new.length ≤ bn := by rw [c3, Nat.add_assoc, ← Nat.add_mul]; exact c2
                    obtain ⟨w', h1, h2, h3⟩ := store_sound (P := P) (o := o + len * i.size) H hb hl hrnew c4 hfit h.next
                    refine ⟨_, _, rfl, .slice (some ⟨l.block, l.base + o, none⟩) (len + n) cap', w', ρ, ?_, .slice hl hc, by rw [AHeap.get_put']; exact h2, by rw [AHeap.get_put']; exact h3, hok.put hb _⟩
                    exact run_append_room' hA0 hA1 hs hx hux hi hs' hx' (hlenx w) hroom (hnew' w rfl) (by rw [Nat.add_assoc]; exact h1)
                · rename_i hle
                  have hle : cap < len + n := Nat.lt_of_not_le fun h => by rw [Nat.ble_eq_true_of_le h] at hle; cases hle
                  split at e
                  · simp at e
                  · rename_i hob
                    have hob : o + len * i.size ≤ bn := Nat.le_of_ble_eq_true hob
                    split at e
                    · simp at e
                    · rename_i old hold
                      obtain ⟨old', hro, hold'⟩ := H.cellsOf (P := P) hb hl hob hold
                      obtain ⟨ol1, ol2⟩ := Trie.take_getD hold
                      split at e
                      · simp at e
                      · rename_i hlen
                        have hlen : (old ++ new).length = (len + n) * i.size := Nat.eq_of_beq_eq_true hlen
                        split at e
                        · rename_i hoe
                          have hcc := (capOK_exact hoe g1 g2 g3).1 hc
                          subst hcc
                          simp at e; subst e
                          right
                          obtain ⟨newCap, w0, hge, hw0, he0, hrun⟩ := run_append_new (ty := ty) hA0 hA1 hs hx hux hi hz hs' hx' hlenx hle k2 k3 (old := old') (new := new') hold' hnew'
                          obtain ⟨ρ', q1, q2, q3, q4⟩ := new_open_sound H hok hf.one elem hzs (old ++ new) (old' ++ new') (hro.append hrnew) hlen hge hw0 he0
                          exact ⟨_, _, rfl, _, _, ρ', hrun, q1, q2, q3, q4⟩
                        · rename_i hoe
                          split at e
                          · simp at e
                          · rename_i hck
                            simp only [Bool.or_eq_false_iff, Bool.not_eq_false'] at hck
                            obtain ⟨⟨⟨c1, c2⟩, c3⟩, c4⟩ := hck
                            subst c1
                            have c2 : sz = i.size := Nat.eq_of_beq_eq_true c2
                            have c3 : el = elem := Nat.eq_of_beq_eq_true c3
                            subst c2; subst c3
                            obtain ⟨d1, d2, d3⟩ := (capOK_open hoe g1 g2 g3).1 hc
                            have hopn : opn = true := by rw [← g2]; exact d1
                            subst hopn
                            obtain rfl := Option.some.inj e
                            right
                            refine ⟨_, _, rfl, ?_⟩
                            by_cases hroom : len + n ≤ cap'
                            · obtain ⟨w', ρ', a1, a2, a3, a4, a5⟩ := append_open_sound (P := P) H hok hf.one hb hl hrnew ol1 hlen ol2 hob c4 d3 hroom (h.del b) rfl
                              exact ⟨_, w', ρ', run_append_room' hA0 hA1 hs hx hux hi hs' hx' (hlenx w) hroom (hnew' w rfl) a1, a2, a3, a4, a5⟩
                            · obtain ⟨newCap, w0, hge, hw0, he0, hrun⟩ := run_append_new (ty := ty) hA0 hA1 hs hx hux hi hz hs' hx' hlenx (by omega) k2 k3 (old := old') (new := new') hold' hnew'
                              have hsub : ∀ j x, (h.del b).get j = some x → h.get j = some x := fun j x hj => by
                                rw [AHeap.get_del] at hj
                                by_cases ej : j = b
                                · simp [ej] at hj
                                · rw [if_neg ej] at hj; exact hj
                              obtain ⟨ρ', q1, q2, q3, q4⟩ := new_open_sound (H.sub hsub) (hok.del b) hf.one _ hzs (old ++ new) (old' ++ new') (hro.append hrnew) hlen hge hw0 he0
                              exact ⟨_, _, ρ', hrun, q1, q2, (Moves.sub hsub h.next).trans q3, q4⟩
              · simp at e
            · -- the empty slice behind an open row
              rename_i b o k
              split at e
              · simp at e
              · rename_i hlc
                simp only [Bool.and_eq_true] at hlc
                have hlen0 : len = 0 := Nat.eq_of_beq_eq_true hlc.1
                have hcap0 : cap = 0 := Nat.eq_of_beq_eq_true hlc.2
                subst hlen0; subst hcap0
                cases hrs with
                | sliceEnd hl ho hn0 hc hofs =>
                rename_i off' cap' l
                split at e
                · rename_i hnn
                  simp only [Bool.and_eq_true] at hnn
                  have hn0' : n = 0 := Nat.eq_of_beq_eq_true hnn.1
                  subst hn0'
                  have hnew0 : new = [] := by simpa using hnn.2
                  subst hnew0
                  have hnew0' : new' = [] := by cases hrnew; rfl
                  subst hnew0'
                  simp at e; subst e
                  left
                  refine ⟨_, _, rfl, run_append_room' (w' := w) hA0 hA1 hs hx hux hi hs' hx' (hlenx w) (by omega) (hnew' w rfl) (by simp [storeCells]), .sliceEnd hl ho hn0 hc hofs⟩
                · rename_i hnf
                  split at e
                  · rename_i bn tr el sz hb
                    obtain ⟨g1, g2, g3, g4, _⟩ := H.get hb hl
                    split at e
                    · rename_i hck
                      simp only [Bool.and_eq_true] at hck
                      obtain ⟨⟨⟨⟨c1, c2⟩, c3⟩, c4⟩, c5⟩ := hck
                      have c1 : bn = o := Nat.eq_of_beq_eq_true c1
                      have c2 : sz = i.size := Nat.eq_of_beq_eq_true c2
                      have c3 : el = elem := Nat.eq_of_beq_eq_true c3
                      have c4 : new.length = (0 + n) * i.size := Nat.eq_of_beq_eq_true c4
                      subst c2; subst c3
                      obtain rfl := Option.some.inj e
                      right
                      refine ⟨_, _, rfl, ?_⟩
                      have hcs : o + cap' * i.size = l.stop := by rw [← g3]; exact hc
                      by_cases hroom : 0 + n ≤ cap'
                      · by_cases hn1 : n = 0
                        · exfalso
                          subst hn1
                          have hz0 : new = [] := by simpa using c4
                          subst hz0
                          simp at hnf
                        · have hoff := hofs (by omega)
                          subst hoff
                          obtain ⟨w', ρ', a1, a2, a3, a4, a5⟩ := append_open_sound (P := P) (o := o) (len := 0) (old := []) H hok hf.one hb hl hrnew (by simp) (by simpa using c4) (by simp) (by omega) c5 hcs hroom (h.del b) rfl
                          exact ⟨_, w', ρ', run_append_room' hA0 hA1 hs hx hux hi hs' hx' (hlenx w) hroom (hnew' w rfl) a1, a2, a3, a4, a5⟩
                      · obtain ⟨newCap, w0, hge, hw0, he0, hrun⟩ := run_append_new (ty := ty) hA0 hA1 hs hx hux hi hz hs' hx' hlenx (by omega) k2 k3 (old := []) (new := new') (fun w0 _ => by simp [Builtin.firstCells, loadCells, loadCellsFrom]) hnew'
                        have hsub : ∀ j x, (h.del b).get j = some x → h.get j = some x := fun j x hj => by
                          rw [AHeap.get_del] at hj
                          by_cases ej : j = b
                          · simp [ej] at hj
                          · rw [if_neg ej] at hj; exact hj
                        obtain ⟨ρ', q1, q2, q3, q4⟩ := new_open_sound (H.sub hsub) (hok.del b) hf.one _ hzs new ([] ++ new') hrnew c4 hge hw0 he0
                        exact ⟨_, _, ρ', hrun, q1, q2, (Moves.sub hsub h.next).trans q3, q4⟩
                    · simp at e
                  · simp at e
      · simp at e
    · simp at e
  · simp at e

theorem aCopy_sound {argTypes : Array TypeId} {ty : TypeId} {args args' : Array Value} {h : AHeap} {r : ARes} (e : aCopy P argTypes args h = some r) (H : HR ρ h.get w) (hok : h.ok) (ha : AR ρ args args') :
    HeapRes P ρ h w r VRel (Builtin.copy_ argTypes ty args') := by
  unfold aCopy at e
  split at e
  · rename_i dType base dLen dCap src hA0 ha0 ha1
    obtain ⟨d', hd', hrd⟩ := ha.get ha0
    obtain ⟨s', hs', hrs⟩ := ha.get ha1
    split at e
    · rename_i elem hu
      split at e
      · rename_i size n0 hsz hn0
        have hlen := aLenOf_sound (P := P) hn0 hrs w
        simp only at e
        split at e
        · simp at e
        · rename_i cs hcs
          obtain ⟨cs', hcs', hrc⟩ := aFirst_sound (P := P) hcs H.quiet hrs
          have hf := hcs' w rfl
          split at e
          · simp at e; subst e
            cases hrd
            left
            refine ⟨_, _, rfl, ?_, .int _ _⟩
            simp [Builtin.copy_, hA0, hd', hs', run_underlying hu, hlen, run_sizeOf_of hsz, hf, goInt]
          · rename_i b o
            cases hrd with
            | slice hl hc =>
            rename_i cap' l
            split at e
            · rename_i bn tr el opn sz hb
              split at e
              · rename_i hle
                simp only [Bool.and_eq_true] at hle
                have hcs1 := hle.2
                have hle : o + cs.length ≤ bn := Nat.le_of_ble_eq_true hle.1
                simp at e; subst e
                right
                obtain ⟨w', h1, h2, h3⟩ := store_sound (P := P) (o := o) H hb hl hrc hcs1 hle h.next
                refine ⟨_, _, rfl, .int .i64 (Nat.min n0 dLen), w', ρ, ?_, .int _ _, by rw [AHeap.get_put']; exact h2, by rw [AHeap.get_put']; exact h3, hok.put hb _⟩
                simp [Builtin.copy_, hA0, hd', hs', run_underlying hu, hlen, run_sizeOf_of hsz, hf, goInt, h1]
              · simp at e
            · simp at e
          · cases hrd
            split at e
            · simp at e; subst e
              have : cs' = [] := by cases hrc; rfl
              subst this
              left
              refine ⟨_, _, rfl, ?_, .int _ _⟩
              have hf0 : (Builtin.firstCells size 0 s').run P w = .ok #[] w := by simpa using hf
              simp [Builtin.copy_, hA0, hd', hs', run_underlying hu, hlen, run_sizeOf_of hsz, hf0, goInt, storeCells]
            · simp at e
      · simp at e
    · simp at e
  · simp at e
end
end Go.Abs
end
