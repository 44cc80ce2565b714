/- Proved here: an evaluator's run of a closed example is a contract of the walk's kind (works_calls); contracts as evaluator rules. By an AI agent. -/
import Derived.Test.YtmheiipmancjpaaGreatDoorAbL
set_option linter.unusedVariables false
set_option linter.unusedSimpArgs false
section
set_option linter.unusedVariables false
/-! A closed run that was worked out, as a contract. -/
namespace Go.Abs
noncomputable section

/-- The heap that knows the one package-level variable: an array of four letters. -/
def globsAt (e : TypeId) : AHeap := { next := 1, bl := .list [cR 4 e [vb 0, vb 111, vb 108, vb 102]] }
def isTrue (x : Option (Value × AHeap)) : Bool := match x with | some (.bool b, _) => b | _ => false
theorem isTrue_some {x : Option (Value × AHeap)} (h : isTrue x = true) : ∃ h', x = some (.bool true, h') := by
  unfold isTrue at h
  split at h
  · subst h; exact ⟨_, rfl⟩
  · cases h

def ren0 : Ren := fun i => if i = 0 then some ⟨0, 0, 4, 4, 0, false⟩ else none

theorem FW_none : FW none = Fence.wide := rfl

/-- Said of the heap alone: nothing that was there is turned. -/
structure Stays (w w' : World) : Prop where
  size : w.heap.size ≤ w'.heap.size
  keep : ∀ B, B < w.heap.size → w'.heap[B]? = w.heap[B]?
  os : w'.os = w.os
  out : w'.output = w.output
theorem stays_drew (w : World) : Stays w w.drew := ⟨Nat.le_refl _, fun _ _ => rfl, rfl, rfl⟩

theorem works_calls {E : Env} {r : Rec} (R : RecOK E r) (hg : E.P.globals.size = 1) {f : FuncId} {e : TypeId} (hr : isTrue (r.call f #[] (globsAt e)) = true) (w : World)
    (hw : w.heap[0]? = some (.cells #[.int .u8 0, .int .u8 111, .int .u8 108, .int .u8 102] e (0, 0))) :
    Calls E.P f #[] w fun en w' => en = .returned (.bool true) ∧ Stays w w' := by
  obtain ⟨h', hr⟩ := isTrue_some hr
  obtain ⟨q1, _, q3⟩ := R.call hr
  have hget : ∀ i o, (globsAt e).get i = some o → i = 0 ∧ o = cR 4 e [vb 0, vb 111, vb 108, vb 102] := by
    intro i o hi
    have hi : Trie.nth [cR 4 e [vb 0, vb 111, vb 108, vb 102]] i = some o := hi
    rw [Trie.nth_eq] at hi
    cases i with
    | zero => simp at hi; exact ⟨rfl, hi.symm⟩
    | succ i => simp at hi
  have H : HR ren0 (globsAt e).get w := by
    refine ⟨fun i o hi => ?_, fun i j oi oj li lj hi hj _ _ hij => ?_⟩
    · obtain ⟨rfl, rfl⟩ := hget i o hi
      refine ⟨⟨0, 0, 4, 4, 0, false⟩, rfl, rfl, rfl, rfl, Nat.le_refl _, _, hw, by simp, fun i v hi hv => ?_⟩
      have hv : Trie.nth [vb 0, vb 111, vb 108, vb 102] i = some v := hv
      rw [Trie.nth_eq] at hv
      refine ⟨v, ?_, ?_⟩
      · rw [Nat.zero_add, ← hv]
        match i, hi with
        | 0, _ => rfl
        | 1, _ => rfl
        | 2, _ => rfl
        | 3, _ => rfl
      · match i, hi with
        | 0, _ => cases hv; exact .int _ _
        | 1, _ => cases hv; exact .int _ _
        | 2, _ => cases hv; exact .int _ _
        | 3, _ => cases hv; exact .int _ _
    · exact absurd ((hget i oi hi).1.trans (hget j oj hj).1.symm) hij
  have hok : (globsAt e).ok := fun i o hi => by obtain ⟨rfl, _⟩ := hget i o hi; exact Nat.one_pos
  have hfr : Fresh ren0 (globsAt e).next h'.next := fun i h1 _ => by
    have : i ≠ 0 := by have : 1 ≤ i := h1; omega
    simp [ren0, this]
  have hG : GOK E.P ren0 := fun g hgl => by
    have : g = 0 := by omega
    subst this
    exact ⟨_, rfl, rfl, rfl⟩
  have := q3 H hok hfr (AR.empty : AR ren0 #[] #[]) hG none
  rw [FW_none] at this
  refine (callsIn_wide.1 this).mono ?_
  intro en w' he
  cases en with
  | panicked c => exact he.elim
  | outgrown => exact he.elim
  | returned v' =>
    obtain ⟨ρ', hv, _, _, m⟩ := he
    cases hv
    refine ⟨rfl, m.size, fun B hB => m.keep B hB ?_, m.os, m.out⟩
    rintro ⟨i, o, l, hi, _, _, hro⟩
    obtain ⟨rfl, rfl⟩ := hget i o hi
    cases hro
end
end Go.Abs
end
section
set_option linter.unusedVariables false
/-! Contracts as rules of the evaluator, and runs of the evaluator as contracts: for what makes a new object and turns nothing that was there. -/
namespace Go.Abs
noncomputable section
variable {ρ : Ren}

/-- A new pointer and no error; nothing that was there is turned. -/
def Made2 (w : World) (e : Ending) (w' : World) : Prop := ∃ b o, w.heap.size ≤ b ∧ b < w'.heap.size ∧ e = .returned (.tuple #[.pointer (some ⟨b, o, none⟩), .int .i64 0]) ∧ Stays w w'
/-- A new pointer; nothing that was there is turned. -/
def Made1 (w : World) (e : Ending) (w' : World) : Prop := ∃ b o, w.heap.size ≤ b ∧ b < w'.heap.size ∧ e = .returned (.pointer (some ⟨b, o, none⟩)) ∧ Stays w w'

/-- A number of a kind from lo to hi, as it is said. -/
def inR (p : IntKind × Nat × Nat) (v : Value) : Bool := match v with
  | .int k n => decide (k = p.1) && decide ((p.2.1 : Int) ≤ n) && decide (n ≤ (p.2.2 : Int))
  | .complex j a b => decide (rngKind j = p.1) && Nat.ble p.2.1 a && Nat.ble b p.2.2
  | _ => false
theorem inR_VR {p : IntKind × Nat × Nat} {v v' : Value} (h : inR p v = true) (hr : VR ρ v v') : ∃ n : Int, v' = .int p.1 n ∧ (p.2.1 : Int) ≤ n ∧ n ≤ (p.2.2 : Int) := by
  unfold inR at h
  split at h
  · simp only [Bool.and_eq_true, decide_eq_true_eq] at h
    obtain ⟨⟨h1, h2⟩, h3⟩ := h
    cases hr
    exact ⟨_, by rw [h1], h2, h3⟩
  · simp only [Bool.and_eq_true, decide_eq_true_eq] at h
    obtain ⟨⟨h1, h2⟩, h3⟩ := h
    have h2 := Nat.le_of_ble_eq_true h2
    have h3 := Nat.le_of_ble_eq_true h3
    cases hr with
    | rng k hn => exact ⟨_, by rw [h1], by omega, by omega⟩
  · cases h

def inRs : List (IntKind × Nat × Nat) → List Value → Bool
  | [], [] => true
  | p :: ps, v :: vs => inR p v && inRs ps vs
  | _, _ => false
/-- Numbers that lie where they are said to lie. -/
inductive Nums : List (IntKind × Nat × Nat) → List Value → Prop
  | nil : Nums [] []
  | cons {p : IntKind × Nat × Nat} {n : Int} {ps : List (IntKind × Nat × Nat)} {vs : List Value} (h1 : (p.2.1 : Int) ≤ n) (h2 : n ≤ (p.2.2 : Int)) (t : Nums ps vs) : Nums (p :: ps) (.int p.1 n :: vs)
theorem inRs_LR : ∀ {ps : List (IntKind × Nat × Nat)} {vs vs' : List Value}, inRs ps vs = true → LR ρ vs vs' → Nums ps vs' := by
  intro ps
  induction ps with
  | nil =>
    intro vs vs' h hr
    cases vs with
    | nil => cases hr; exact .nil
    | cons v vs => cases h
  | cons p ps ih =>
    intro vs vs' h hr
    cases vs with
    | nil => cases h
    | cons v vs =>
      simp only [inRs, Bool.and_eq_true] at h
      cases hr with
      | cons hv ht =>
        obtain ⟨n, rfl, h1, h2⟩ := inR_VR h.1 hv
        exact .cons h1 h2 (ih h.2 ht)

/-- What is tracked stays tracked. -/
theorem HR.stays {g : Got} {w w' : World} (H : HR ρ g w) (hs : Stays w w') : HR ρ g w' := by
  refine ⟨fun i o hi => ?_, H.inj⟩
  obtain ⟨l, hl, hor⟩ := H.obj i o hi
  exact ⟨l, hl, by rw [hs.2 _ (H.block_lt hi hl)]; exact hor⟩

/-- A rule: a call of g with such arguments makes something new. -/
def rule (two : Bool) (g0 : FuncId) (ps : List (IntKind × Nat × Nat)) (g : FuncId) (args : Array Value) (h : AHeap) : Option (Value × AHeap) :=
  match Nat.beq g g0 with
  | false => none
  | true => match inRs ps args.toList with
    | false => none
    | true => some ((match two with | true => .tuple ⟨[.pointer (some ⟨h.next, 0, none⟩), .int .i64 (.ofNat 0)]⟩ | false => .pointer (some ⟨h.next, 0, none⟩)), { next := Nat.succ h.next, bl := h.bl })
theorem rule_ok {E : Env} {two : Bool} {g0 : FuncId} {ps : List (IntKind × Nat × Nat)} (hb : ∃ fn c, E.P.funcs[g0]? = some fn ∧ fn.body = some c)
    (hc : ∀ vs, Nums ps vs → ∀ w, Calls E.P g0 vs.toArray w (match two with | true => Made2 w | false => Made1 w)) : CallOK E (rule two g0 ps) := by
  intro g args h v h' e
  unfold rule at e
  split at e
  · cases e
  · rename_i hg
    have hg := Nat.eq_of_beq_eq_true hg
    subst hg
    split at e
    · cases e
    · rename_i hin
      simp only [Option.some.injEq, Prod.mk.injEq] at e
      obtain ⟨hv, rfl⟩ := e
      refine ⟨Nat.le_succ _, hb, ?_⟩
      intro ρ w args' H hok hfr hargs hG ro'
      have hn : Nums ps args'.toList := inRs_LR hin hargs
      have key : CallsIn (FW none) 0 E.P g args' w fun
          | .returned v', w' => ∃ ρ', VR ρ' v v' ∧ HR ρ' h.get w' ∧ ({ next := Nat.succ h.next, bl := h.bl } : AHeap).ok ∧ Moves ρ h.get h.next w ρ' h.get (Nat.succ h.next) w'
          | _, _ => False := by
        rw [FW_none]
        refine callsIn_wide.2 ?_
        have := hc _ hn w
        rw [Array.toArray_toList] at this
        refine this.mono ?_
        have fin : ∀ {b o : Nat} {w' : World}, w.heap.size ≤ b → b < w'.heap.size → Stays w w' → ∃ ρ', VR ρ' (.pointer (some ⟨h.next, 0, none⟩)) (.pointer (some ⟨b, o, none⟩)) ∧ HR ρ' h.get w' ∧ ({ next := Nat.succ h.next, bl := h.bl } : AHeap).ok ∧ Moves ρ h.get h.next w ρ' h.get (Nat.succ h.next) w' := by
          intro b o w' hb1 hb2 hs
          have hfree : ρ h.next = none := hfr h.next (Nat.le_refl _) (Nat.lt_succ_self _)
          have hle : ρ.le (ρ.upd h.next ⟨b, o, 0, 0, 0, false⟩) := Ren.le_upd hfree
          refine ⟨ρ.upd h.next ⟨b, o, 0, 0, 0, false⟩, ?_, (H.stays hs).mono hle, fun i x hi => Nat.lt_succ_of_lt (hok i x hi), ?_⟩
          · have := VR.ptr (ρ := ρ.upd h.next ⟨b, o, 0, 0, 0, false⟩) (b := h.next) (o := 0) (Ren.upd_same _ _ _)
            exact this
          · refine ⟨hle, fun j hj => ?_, Nat.le_succ _, hs.1, fun B hB _ => hs.2 B hB, fun B hB hw => ?_, fun B hB hw => ?_, hs.3, hs.4⟩
            · unfold Ren.upd at hj
              by_cases e : j = h.next
              · exact .inr ⟨by omega, by show j < Nat.succ h.next; omega⟩
              · rw [if_neg e] at hj; exact .inl hj
            · obtain ⟨i, x, l, hi, hl, hlb, hro⟩ := hw
              have hne : i ≠ h.next := fun e => by have := hok i x hi; omega
              unfold Ren.upd at hl
              rw [if_neg hne] at hl
              exact ⟨i, x, l, hi, hl, hlb, hro⟩
            · obtain ⟨i, x, l, hi, hl, hlb⟩ := hw
              have hne : i ≠ h.next := fun e => by have := hok i x hi; omega
              unfold Ren.upd at hl
              rw [if_neg hne] at hl
              exact ⟨i, x, l, hi, hl, hlb⟩
        intro en w' he
        cases two with
        | true =>
          obtain ⟨b, o, hb1, hb2, rfl, hs⟩ := he
          obtain ⟨ρ', r1, r2⟩ := fin (o := o) hb1 hb2 hs
          refine ⟨ρ', ?_, r2⟩
          rw [← hv]
          exact VR.of_tuple (LR.cons r1 (LR.cons (.int _ _) .nil))
        | false =>
          obtain ⟨b, o, hb1, hb2, rfl, hs⟩ := he
          obtain ⟨ρ', r1, r2⟩ := fin (o := o) hb1 hb2 hs
          exact ⟨ρ', by rw [← hv]; exact r1, r2⟩
      cases ro' with
      | none => exact key
      | some l => exact key.inRound l

/-- Two tables. -/
def orTab (t u : FuncId → Array Value → AHeap → Option (Value × AHeap)) (g : FuncId) (args : Array Value) (h : AHeap) : Option (Value × AHeap) :=
  Option.rec (motive := fun _ => Option (Value × AHeap)) (u g args h) (fun x => some x) (t g args h)
theorem orTab_ok {E : Env} {t u : FuncId → Array Value → AHeap → Option (Value × AHeap)} (ht : CallOK E t) (hu : CallOK E u) : CallOK E (orTab t u) := by
  intro g args h v h' e
  have e : Option.rec (motive := fun _ => Option (Value × AHeap)) (u g args h) (fun x => some x) (t g args h) = some (v, h') := e
  cases hx : t g args h with
  | some x => rw [hx] at e; cases e; exact ht hx
  | none => rw [hx] at e; exact hu e
theorem noTab_ok {E : Env} : CallOK E (fun _ _ _ => none) := fun e => by cases e

/-! ### A run as a contract -/
def heap0 (n : Nat) : AHeap := { next := n, bl := .leaf }
def renG (n : Nat) : Ren := fun i => if i < n then some ⟨i, 0, 0, 0, 0, false⟩ else none
def isPtr (h : AHeap) (v : Value) : Bool := match v with | .pointer (some ⟨b, _, none⟩) => (h.get b).isSome | _ => false
def isMade (two : Bool) (x : Option (Value × AHeap)) : Bool := match x with
  | some (v, h') => match two, v with
    | true, .tuple ⟨[p, .int .i64 (.ofNat 0)]⟩ => isPtr h' p
    | false, p => isPtr h' p
    | _, _ => false
  | none => false
theorem isPtr_some {h : AHeap} {v : Value} (e : isPtr h v = true) : ∃ b o x, v = .pointer (some ⟨b, o, none⟩) ∧ h.get b = some x := by
  unfold isPtr at e
  split at e
  · rename_i b o
    exact ⟨b, o, _, rfl, (Option.isSome_iff_exists.1 e).choose_spec⟩
  · cases e

theorem made_calls {E : Env} {r : Rec} (R : RecOK E r) {two : Bool} {f : FuncId} {args : List Value} (hr : isMade two (r.call f ⟨args⟩ (heap0 E.P.globals.size)) = true) {args' : Array Value}
    (ha : LR (renG E.P.globals.size) args args'.toList) (w : World) : Calls E.P f args' w (match two with | true => Made2 w | false => Made1 w) := by
  unfold isMade at hr
  split at hr
  · rename_i v h' hcall
    obtain ⟨q1, _, q3⟩ := R.call hcall
    have hget : ∀ i o, (heap0 E.P.globals.size).get i = some o → False := fun i o hi => by cases hi
    have H : HR (renG E.P.globals.size) (heap0 E.P.globals.size).get w := ⟨fun i o hi => (hget i o hi).elim, fun i j oi oj li lj hi => (hget i oi hi).elim⟩
    have hok : (heap0 E.P.globals.size).ok := fun i o hi => (hget i o hi).elim
    have hfr : Fresh (renG E.P.globals.size) (heap0 E.P.globals.size).next h'.next := fun i h1 _ => by
      have : ¬ i < E.P.globals.size := by have : E.P.globals.size ≤ i := h1; omega
      simp [renG, this]
    have hG : GOK E.P (renG E.P.globals.size) := fun g hg => ⟨⟨g, 0, 0, 0, 0, false⟩, by simp [renG, hg], rfl, rfl⟩
    have := q3 (args' := args') H hok hfr ha hG none
    rw [FW_none] at this
    refine (callsIn_wide.1 this).mono ?_
    intro en w' he
    cases en with
    | panicked c => exact he.elim
    | outgrown => exact he.elim
    | returned v' =>
      obtain ⟨ρ', hv, H', _, m⟩ := he
      have hs : Stays w w' := ⟨m.size, fun B hB => m.keep B hB fun ⟨i, o, l, hi, _⟩ => hget i o hi, m.os, m.out⟩
      have ptr : ∀ {p p' : Value}, isPtr h' p = true → VR ρ' p p' → ∃ b o, w.heap.size ≤ b ∧ b < w'.heap.size ∧ p' = .pointer (some ⟨b, o, none⟩) := by
        intro p p' hp hpv
        obtain ⟨b, o, x, rfl, hx⟩ := isPtr_some hp
        cases hpv with
        | @ptr _ _ l hl =>
          refine ⟨l.block, _, ?_, H'.block_lt hx hl, rfl⟩
          rcases Nat.lt_or_ge l.block w.heap.size with hlt | hge
          · obtain ⟨i, o, _, hi, _⟩ := m.tr _ hlt ⟨b, x, l, hx, hl, rfl⟩
            exact (hget i o hi).elim
          · exact hge
      split at hr
      · rename_i p hq
        obtain ⟨a', rfl, hA⟩ := hv.tuple_inv
        have hA : LR ρ' [p, .int .i64 (.ofNat 0)] a'.toList := hA
        obtain ⟨l⟩ := a'
        cases hA with
        | cons hp ht =>
          cases ht with
          | cons hz ht =>
            cases ht
            cases hz
            obtain ⟨b, o, h1, h2, rfl⟩ := ptr hr hp
            exact ⟨b, o, h1, h2, rfl, hs⟩
      · obtain ⟨b, o, h1, h2, rfl⟩ := ptr hr hv
        exact ⟨b, o, h1, h2, rfl, hs⟩
      · cases hr
  · cases hr

/-- Ranges for numbers. -/
def rngs : List (IntKind × Nat × Nat) → List Value
  | [] => []
  | p :: ps => (match p.1 with | .i64 => Value.complex .f32 p.2.1 p.2.2 | .u32 => Value.complex .f64 p.2.1 p.2.2 | _ => undef) :: rngs ps
def good : List (IntKind × Nat × Nat) → Bool
  | [] => true
  | p :: ps => (match p.1 with | .i64 => true | .u32 => true | _ => false) && good ps
theorem rngs_LR : ∀ {ps : List (IntKind × Nat × Nat)} {vs : List Value}, good ps = true → Nums ps vs → LR ρ (rngs ps) vs := by
  intro ps
  induction ps with
  | nil => intro vs _ h; cases h; exact .nil
  | cons p ps ih =>
    intro vs hg h
    simp only [good, Bool.and_eq_true] at hg
    obtain ⟨k, lo, hi⟩ := p
    cases h with
    | cons h1 h2 t =>
      refine .cons ?_ (ih hg.2 t)
      have hk := hg.1
      cases k <;> first | (cases hk; done) | skip
      · exact .rng .f32 ⟨h1, h2⟩
      · exact .rng .f64 ⟨h1, h2⟩

end
end Go.Abs
end
