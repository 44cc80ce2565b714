/- Proved here: the orders that a drawn region may take (first part). By an AI agent. -/
import Derived.Test.YtmheiipmancjpaaGreatDoorAbG
import Derived.OrdersIn
set_option linter.unusedVariables false
set_option linter.unusedSimpArgs false
section
/-! What a region that draws asks for: operands alone, sets of those before, slots. -/
namespace Go.Abs
noncomputable section
variable {ρ : Ren} {g : Got} {w : World}

/-! ### An operation asks for its operands alone -/
theorem evs_congr {ev ev' : Operand → Option Value} : ∀ {xs : List Operand}, (∀ x ∈ xs, ev x = ev' x) → evs ev xs = evs ev' xs := by
  intro xs
  induction xs with
  | nil => intro _; rfl
  | cons x xs ih => intro h; simp only [evs, h x (by simp), ih fun y hy => h y (by simp [hy])]
theorem evParts_congr {ev ev' : Operand → Option Value} : ∀ {xs : List (Nat × Operand)}, (∀ x ∈ xs.map (·.2), ev x = ev' x) → evParts ev xs = evParts ev' xs := by
  intro xs
  induction xs with
  | nil => intro _; rfl
  | cons x xs ih =>
    intro h
    obtain ⟨i, x⟩ := x
    simp only [evParts, h x (by simp), ih fun y hy => h y (by simp at hy ⊢; exact .inr hy)]
theorem evOpt_congr {ev ev' : Operand → Option Value} {x : Option Operand} (h : ∀ y, x = some y → ev y = ev' y) : evOpt ev x = evOpt ev' x := by
  cases x with
  | none => rfl
  | some y => simp only [evOpt, h y rfl]

theorem aop_congr {E : Env} {o : Oper} {ev ev' : Operand → Option Value} {h : AHeap} (hx : ∀ x ∈ o.op.operands, ev x = ev' x) : aop E o ev h = aop E o ev' h := by
  obtain ⟨dst, op, type, pos, after, guard⟩ := o
  cases op <;> simp only [Op.operands] at hx <;> simp only [aop]
  case build t ps => rw [evParts_congr fun x hm => hx x (by simpa using hm)]
  case buildSlice t n ps => rw [evParts_congr fun x hm => hx x (by simpa using hm)]
  case makeFunc fn first captured =>
    rw [evs_congr (xs := first.toList) fun x hm => hx x (by simp at hm; simp [hm]), evs_congr (xs := captured.toList) fun x hm => hx x (by simp at hm; simp [hm])]
  case call c =>
    have ha : evs ev c.args.toList = evs ev' c.args.toList := evs_congr fun x hm => hx x (by simp at hm; simp [Call.operands, hm])
    simp only [aCall, ha]
    cases hc : c.callee with
    | value f => have hf : ev f = ev' f := hx f (by simp [Call.operands, hc]); simp only [hf]
    | invoke r m => have hr : ev r = ev' r := hx r (by simp [Call.operands, hc]); simp only [hr]
    | builtin b => rfl
  case makeMap t r => cases r <;> simp_all
  case slice t x lo hi mx =>
    rw [hx x (by simp), evOpt_congr (x := lo) fun y hy => hx y (by simp [hy]), evOpt_congr (x := hi) fun y hy => hx y (by simp [hy]), evOpt_congr (x := mx) fun y hy => hx y (by simp [hy])]
  all_goals (first | rfl | (simp_all; done))

/-! ### The sets -/
theorem before_fold (l : List Oper) : ∀ (A : Array Nat), A.size ≤ (l.foldl (fun acc o => acc.push (CheckFast.one (fun i => acc.getD i 0) o)) A).size ∧
    ∀ k, k < A.size → (l.foldl (fun acc o => acc.push (CheckFast.one (fun i => acc.getD i 0) o)) A).getD k 0 = A.getD k 0 := by
  induction l with
  | nil => intro A; exact ⟨Nat.le_refl _, fun _ _ => rfl⟩
  | cons o l ih =>
    intro A
    obtain ⟨h1, h2⟩ := ih (A.push (CheckFast.one (fun i => A.getD i 0) o))
    refine ⟨by simp at h1 ⊢; omega, fun k hk => ?_⟩
    rw [List.foldl_cons, h2 k (by simp; omega)]
    simp [Array.getD_eq_getD_getElem?, Array.getElem?_push, Nat.ne_of_lt hk]

theorem bits_eq (ops : Array Oper) : bits ops = (ops.toList.foldl (fun acc o => acc.push (CheckFast.one (fun i => acc.getD i 0) o)) (#[] : Array Nat)).toList := by
  have := CheckFast.beforeL_eq ops.toList #[]
  simpa [bits] using this

theorem one_testBit {look : Nat → Nat} {o : Oper} {j : Nat} : (CheckFast.one look o).testBit j = true ↔ ∃ e ∈ o.after, Region.binds .any e = true ∧ (j = e.on ∨ (look e.on).testBit j = true) := by
  unfold CheckFast.one
  rw [← Array.foldl_toList]
  suffices h : ∀ (l : List Edge) (s : Nat), (l.foldl (fun s e => if Region.binds .any e then s ||| 2 ^ e.on ||| look e.on else s) s).testBit j = true ↔
      (s.testBit j = true ∨ ∃ e ∈ l, Region.binds .any e = true ∧ (j = e.on ∨ (look e.on).testBit j = true)) by
    rw [h]; simp
  intro l
  induction l with
  | nil => intro s; simp
  | cons e l ih =>
    intro s
    rw [List.foldl_cons, ih]
    by_cases hb : Region.binds .any e = true
    · simp only [hb, if_true, Nat.testBit_or, Nat.testBit_two_pow, List.mem_cons, Bool.or_eq_true, decide_eq_true_eq]
      constructor
      · rintro ((( h | h) | h) | ⟨x, h1, h2⟩)
        · exact .inl h
        · exact .inr ⟨e, .inl rfl, hb, .inl h.symm⟩
        · exact .inr ⟨e, .inl rfl, hb, .inr h⟩
        · exact .inr ⟨x, .inr h1, h2⟩
      · rintro (h | ⟨x, (rfl | h1), h2, h3⟩)
        · exact .inl (.inl (.inl h))
        · rcases h3 with h3 | h3
          · exact .inl (.inl (.inr h3.symm))
          · exact .inl (.inr h3)
        · exact .inr ⟨x, h1, h2, h3⟩
    · simp only [hb, if_false, List.mem_cons, Bool.false_eq_true]
      constructor
      · rintro (h | ⟨x, h1, h2⟩)
        · exact .inl h
        · exact .inr ⟨x, .inr h1, h2⟩
      · rintro (h | ⟨x, (rfl | h1), h2, h3⟩)
        · exact .inl h
        · exact absurd h2 hb
        · exact .inr ⟨x, h1, h2, h3⟩

/-- WHO COMES BEFORE. -/
theorem bits_spec {ops : Array Oper} {i : Nat} {o : Oper} (ho : ops[i]? = some o) (j : Nat) :
    ((bits ops).getD i 0).testBit j = true ↔ ∃ e ∈ o.after, Region.binds .any e = true ∧ (j = e.on ∨ (e.on < i ∧ ((bits ops).getD e.on 0).testBit j = true)) := by
  have hl : ops.toList[i]? = some o := by simpa using ho
  obtain ⟨hlt, hget⟩ := List.getElem?_eq_some_iff.1 hl
  have hsplit : ops.toList = ops.toList.take i ++ o :: ops.toList.drop (i + 1) := by
    rw [← hget, List.getElem_cons_drop, List.take_append_drop]
  have hA : ∀ (l : List Oper) (A : Array Nat), (l.foldl (fun acc o => acc.push (CheckFast.one (fun i => acc.getD i 0) o)) A).size = A.size + l.length := by
    intro l
    induction l with
    | nil => intro A; simp
    | cons x l ih => intro A; rw [List.foldl_cons, ih]; simp; omega
  have key : ∃ A : Array Nat, A.size = i ∧ (∀ k, k < i → (bits ops).getD k 0 = A.getD k 0) ∧ (bits ops).getD i 0 = CheckFast.one (fun k => A.getD k 0) o := by
    refine ⟨(ops.toList.take i).foldl (fun acc o => acc.push (CheckFast.one (fun i => acc.getD i 0) o)) #[], ?_, ?_⟩
    · rw [hA]; simp at hlt ⊢; omega
    · generalize hB : (ops.toList.take i).foldl (fun acc o => acc.push (CheckFast.one (fun i => acc.getD i 0) o)) (#[] : Array Nat) = A
      have hsz : A.size = i := by rw [← hB, hA]; simp at hlt ⊢; omega
      have hb : bits ops = ((ops.toList.drop (i + 1)).foldl (fun acc o => acc.push (CheckFast.one (fun i => acc.getD i 0) o)) (A.push (CheckFast.one (fun k => A.getD k 0) o))).toList := by
        rw [bits_eq]
        conv => lhs; rw [hsplit]
        rw [List.foldl_append, List.foldl_cons, hB]
      obtain ⟨_, h2⟩ := before_fold (ops.toList.drop (i + 1)) (A.push (CheckFast.one (fun k => A.getD k 0) o))
      have hg : ∀ k, (bits ops).getD k 0 = ((ops.toList.drop (i + 1)).foldl (fun acc o => acc.push (CheckFast.one (fun i => acc.getD i 0) o)) (A.push (CheckFast.one (fun k => A.getD k 0) o))).getD k 0 := fun k => by
        rw [hb, List.getD_eq_getElem?_getD, Array.getD_eq_getD_getElem?, Array.getElem?_toList]
      refine ⟨fun k hk => ?_, ?_⟩
      · rw [hg, h2 k (by simp; omega)]
        simp [Array.getD_eq_getD_getElem?, Array.getElem?_push, hsz, Nat.ne_of_lt hk]
      · rw [hg, h2 i (by simp; omega)]
        rw [Array.getD_eq_getD_getElem?, Array.getElem?_push, if_pos hsz.symm]; rfl
  obtain ⟨A, hsz, h1, h2⟩ := key
  rw [h2, one_testBit]
  constructor
  · rintro ⟨e, he, hb, h⟩
    refine ⟨e, he, hb, ?_⟩
    rcases h with h | h
    · exact .inl h
    · by_cases hlt : e.on < i
      · exact .inr ⟨hlt, by rw [h1 _ hlt]; exact h⟩
      · rw [Array.getD_eq_getD_getElem?, Array.getElem?_eq_none (by omega)] at h; simp at h
  · rintro ⟨e, he, hb, h⟩
    refine ⟨e, he, hb, ?_⟩
    rcases h with h | ⟨hlt, h⟩
    · exact .inl h
    · exact .inr (by rw [← h1 _ hlt]; exact h)

/-! ### Slots -/
def nm (ops : Array Oper) (o : Oper) : List Nat := o.dst.toList ++ o.looksAt ops

theorem slotsOK_spec {ops : Array Oper} {b : List Nat} (h : slotsOK ops b = true) {i j : Nat} {o o' : Oper} (hj : ops[j]? = some o) (hi : ops[i]? = some o') {d : Nat} (hd : o'.dst = some d) (hn : d ∈ nm ops o) (hne : i ≠ j) :
    (b.getD i 0).testBit j = true ∨ (b.getD j 0).testBit i = true := by
  unfold slotsOK at h
  rw [List.all_eq_true] at h
  have h1 := h (o, j) (by rw [List.mem_zipIdx_iff_getElem?]; simpa using hj)
  rw [List.all_eq_true] at h1
  have h2 := h1 (o', i) (by rw [List.mem_zipIdx_iff_getElem?]; simpa using hi)
  simp only [hd] at h2
  have hany : (o.dst.toList ++ o.looksAt ops).any (Nat.beq d) = true := List.any_eq_true.2 ⟨d, hn, Nat.beq_refl d⟩
  have hb : Nat.beq i j = false := by
    cases hb : Nat.beq i j with
    | false => rfl
    | true => exact absurd (Nat.eq_of_beq_eq_true hb) hne
  rw [hany, hb] at h2
  simpa using h2

theorem get_put (t : ATmps) (d : Option Tmp) (v : Value) (x : Nat) : (t.put d v).get x = if d = some x ∧ x < t.n then v else t.get x := by
  cases d with
  | none => simp [ATmps.put]
  | some d =>
    obtain ⟨tn, tt⟩ := t
    rw [ATmps.put_some, ATmps.set_mk]
    split
    · rename_i hle
      have hlt := Nat.le_of_ble_eq_true hle
      simp only [ATmps.get, getS_setS]
      by_cases e : x = d
      · subst e; simp; omega
      · have e' : ¬ d = x := fun h => e h.symm
        simp [e, e']
    · rename_i hle
      have hge : ¬ d < tn := fun hlt => by
        have h1 : Nat.ble (d + 1) tn = true := Nat.ble_eq_true_of_le hlt
        rw [h1] at hle; cases hle
      by_cases e : d = x
      · subst e; simp [hge]
      · simp [e]
theorem put_n (t : ATmps) (d : Option Tmp) (v : Value) : (t.put d v).n = t.n := by
  cases d with
  | none => rfl
  | some d => obtain ⟨tn, tt⟩ := t; rw [ATmps.put_some, ATmps.set_mk]; split <;> rfl

theorem TR.congr {t t' : ATmps} {c : Array Value} (h : TR ρ t c) (hn : t'.n = t.n) (hg : ∀ x, t'.get x = t.get x) : TR ρ t' c := ⟨hn.trans h.1, fun i => by rw [hg i]; exact h.2 i⟩

theorem aeval_slots {P : Program} {t t' : ATmps} {x : Operand} (h : ∀ d, x = .tmp d → t.get d = t'.get d) : aeval P t x = aeval P t' x := by
  cases x with
  | tmp i => simp only [aeval, h i rfl]
  | _ => rfl

theorem looks_op {ops : Array Oper} {o : Oper} {d : Nat} (h : Operand.tmp d ∈ o.op.operands) : d ∈ nm ops o := by
  refine List.mem_append_right _ (List.mem_append_left _ (List.mem_filterMap.2 ⟨.tmp d, by simpa using h, rfl⟩))
theorem looks_guard {ops : Array Oper} {o : Oper} {j d : Nat} {want : Bool} (hg : o.guard = some (j, want)) (hd : (ops[j]?).bind (·.dst) = some d) : d ∈ nm ops o := by
  refine List.mem_append_right _ (List.mem_append_right _ ?_)
  simp [hg, hd]

theorem aop_slots {E : Env} {ops : Array Oper} {o : Oper} {t t' : ATmps} {h : AHeap} (hx : ∀ d ∈ nm ops o, t.get d = t'.get d) : aop E o (aeval E.P t) h = aop E o (aeval E.P t') h :=
  aop_congr fun x hm => aeval_slots fun d hd => hx d (looks_op (hd ▸ hm))
theorem awanted_slots {ops : Array Oper} {o : Oper} {t t' : ATmps} (hx : ∀ d ∈ nm ops o, t.get d = t'.get d) : awanted ops t o = awanted ops t' o := by
  unfold awanted
  cases hg : o.guard with
  | none => rfl
  | some p =>
    obtain ⟨j, want⟩ := p
    simp only
    cases hd : (ops[j]?).bind (·.dst) with
    | none => rfl
    | some d => simp only [hx d (looks_guard hg hd)]
end
end Go.Abs
end
section
/-! A region that draws its order: the evaluator's way through it, as a list. -/
namespace Go.Abs
noncomputable section
variable {ρ : Ren} {g : Got} {w : World}

theorem veqL_sound {f : Value → Value → Bool} (hf : ∀ a b, f a b = true → a = b) : ∀ {as bs : List Value}, veqL f as bs = true → as = bs := by
  intro as
  induction as with
  | nil => intro bs h; cases bs with
    | nil => rfl
    | cons b bs => simp [veqL] at h
  | cons a as ih => intro bs h; cases bs with
    | nil => simp [veqL] at h
    | cons b bs => simp [veqL] at h; rw [hf a b h.1, ih h.2]
theorem veq_sound : ∀ (n : Nat) (v w : Value), veq n v w = true → v = w := by
  have arr : ∀ {f : Value → Value → Bool}, (∀ a b, f a b = true → a = b) → ∀ {a b : Array Value}, veqL f a.toList b.toList = true → a = b := fun hf _ _ h => Array.ext' (veqL_sound hf h)
  intro n
  induction n with
  | zero =>
    intro v w h
    cases v <;> cases w <;> simp [veq] at h <;> first | rfl | (simp_all; done) | skip
    all_goals (obtain ⟨⟨h1, h2⟩, h3⟩ := h; rw [h1, h2, h3])
  | succ n ih =>
    intro v w h
    cases v <;> cases w <;> simp [veq] at h <;> first | rfl | (simp_all; done) | skip
    all_goals first
      | (rw [arr ih h]; done)
      | (obtain ⟨⟨h1, h2⟩, h3⟩ := h; first | (rw [h1, h2, h3]; done) | (rw [h1, arr ih h2, arr ih h3]; done))
      | (obtain ⟨h1, h2⟩ := h; rw [h1, ih _ _ h2]; done)

theorem alloc_form {E : Env} {o : Oper} {ev : Operand → Option Value} {h h' : AHeap} {v : Value} (hk : opKind o.op = 1) (e : aop E o ev h = some (.val v (some h'))) :
    ∃ obj, h' = h.add obj ∧ ∀ g : AHeap, g.next = h.next → aop E o ev g = some (.val v (some (g.add obj))) := by
  have new : ∀ {elem : TypeId} {vs : List Value}, aNew elem vs h = some (.val v (some h')) → ∃ obj, h' = h.add obj ∧ ∀ g : AHeap, g.next = h.next → aNew elem vs g = some (.val v (some (g.add obj))) := by
    intro elem vs hn
    unfold aNew at hn
    split at hn
    · rename_i hall
      simp only [Option.some.injEq, ARes.val.injEq] at hn
      obtain ⟨rfl, rfl⟩ := hn
      exact ⟨_, rfl, fun g hg => by simp only [aNew, hall, hg]⟩
    · simp at hn
  obtain ⟨dst, op, type, pos, after, guard⟩ := o
  cases op <;> try (simp only [opKind] at hk; exact absurd hk (by decide))
  case alloc elem =>
    simp only [aop] at e ⊢
    split at e
    · exact new e
    · simp at e
  case box elem x =>
    simp only [aop] at e ⊢
    split at e
    · exact new e
    · simp at e
  case buildSlice t len parts =>
    simp only [aop] at e ⊢
    split at e
    · rename_i ps hps
      unfold aBuildSlice at e
      split at e
      · rename_i elem hu
        split at e
        · rename_i size z hs hz
          split at e
          · simp at e
          · rename_i hle
            split at e
            · simp at e
            · rename_i cells hc
              split at e
              · rename_i hall
                simp only [Option.some.injEq, ARes.val.injEq] at e
                obtain ⟨rfl, rfl⟩ := e
                exact ⟨_, rfl, fun g hg => by simp only [aBuildSlice, hu, hs, hz, hle, hc, hall, hg]⟩
              · simp at e
        · simp at e
      · simp at e
    · simp at e
  case makeMap t r =>
    simp only [aop] at e ⊢
    split at e
    · simp only [Option.some.injEq, ARes.val.injEq] at e
      obtain ⟨rfl, rfl⟩ := e
      exact ⟨_, rfl, fun g hg => by simp only [hg]⟩
    · simp at e
  case makeSlice t l c =>
    simp only [aop] at e ⊢
    split at e
    · rename_i l' c' hl hc
      unfold aMakeSlice at e
      split at e
      · rename_i elem k1 l2 k2 c2 hu
        split at e
        · rename_i i z hi hz
          split at e
          · rename_i hcond
            simp only [Option.some.injEq, ARes.val.injEq] at e
            obtain ⟨rfl, rfl⟩ := e
            exact ⟨_, rfl, fun g hg => by simp only [aMakeSlice, hu, hi, hz, if_pos hcond, hg]⟩
          · simp at e
        · simp at e
      · simp at e
    · simp at e
  case call c =>
    exfalso
    simp only [opKind] at hk
    split at hk <;> simp_all

structure Ent where
  i : Nat
  o : Oper
  t : ATmps
  h : AHeap
  v : Value
  h' : AHeap
  eff : Bool

section
variable {r : Rec} {E : Env} {ops : Array Oper} {b : List Nat}

inductive SK (r : Rec) (E : Env) (ops : Array Oper) (b : List Nat) (A : List Ent) (e : Ent) : Prop
  | off (hw : awanted ops e.t e.o = some false) (hv : e.v = undef) (hh : e.h' = e.h) (he : e.eff = false)
  | quiet (hw : awanted ops e.t e.o = some true) (hk : opKind e.o.op = 0) (hx : aop E e.o (aeval E.P e.t) e.h = some (.val e.v none))
      (hp : ∀ f ∈ A, f.eff = true → (b.getD e.i 0).testBit f.i = true ∨ aop E e.o (aeval E.P e.t) f.h = some (.val e.v none)) (hh : e.h' = e.h) (he : e.eff = false)
  | alloc (hw : awanted ops e.t e.o = some true) (hk : opKind e.o.op = 1) (hx : aop E e.o (aeval E.P e.t) e.h = some (.val e.v (some e.h'))) (he : e.eff = false)
  | eff (hw : awanted ops e.t e.o = some true) (hx : aDo r (aop E e.o (aeval E.P e.t) e.h) e.h = some (e.v, e.h')) (hp : ∀ f ∈ A, (b.getD e.i 0).testBit f.i = true) (he : e.eff = true)

inductive Seg (r : Rec) (E : Env) (ops : Array Oper) (b : List Nat) : List Ent → ATmps → AHeap → List Ent → ATmps → AHeap → Prop
  | nil {A : List Ent} {t : ATmps} {h : AHeap} : Seg r E ops b A t h [] t h
  | cons {A : List Ent} {e : Ent} {B : List Ent} {t' : ATmps} {h' : AHeap} (ho : ops[e.i]? = some e.o) (hb : ∀ j, (b.getD e.i 0).testBit j = true → ∃ f ∈ A, f.i = j) (hd : ∀ f ∈ A, f.i ≠ e.i)
      (hs : SK r E ops b A e) (rest : Seg r E ops b (A ++ [e]) (e.t.put e.o.dst e.v) e.h' B t' h') : Seg r E ops b A e.t e.h (e :: B) t' h'

theorem draw_seg : ∀ {l : List Nat} {done : Nat} {t : ATmps} {h : AHeap} {pre : List (Nat × AHeap)} {t' : ATmps} {h' : AHeap} {A : List Ent}, aDraw r E ops b l done t h pre = some (t', h') →
    (∀ j, done.testBit j = true ↔ ∃ e ∈ A, e.i = j) → (∀ f ∈ A, f.eff = true → (f.i, f.h) ∈ pre) →
    ∃ B, Seg r E ops b A t h B t' h' ∧ ∀ i, i < ops.size → ∃ e ∈ A ++ B, e.i = i := by
  intro l
  induction l with
  | nil =>
    intro done t h pre t' h' A e hdone hpre
    unfold aDraw at e
    split at e
    · rename_i hn
      simp at e; obtain ⟨rfl, rfl⟩ := e
      have hn := Nat.eq_of_beq_eq_true hn
      refine ⟨[], .nil, fun i hi => ?_⟩
      rw [List.append_nil]
      refine (hdone i).1 ?_
      rw [hn, Nat.testBit_two_pow_sub_one]
      simpa using hi
    · simp at e
  | cons i l ih =>
    intro done t h pre t' h' A e hdone hpre
    unfold aDraw at e
    split at e
    · simp at e
    · rename_i o ho
      split at e
      · simp at e
      · rename_i hc
        simp only [Bool.and_eq_true, Bool.not_eq_true'] at hc
        obtain ⟨hsub, hnew⟩ := hc
        have hsub := Nat.eq_of_beq_eq_true hsub
        have hb : ∀ j, (b.getD i 0).testBit j = true → ∃ f ∈ A, f.i = j := fun j hj => by
          rw [← hsub, Nat.testBit_and] at hj
          simp only [Bool.and_eq_true] at hj
          exact (hdone j).1 hj.2
        have hd : ∀ f ∈ A, f.i ≠ i := fun f hf e => by
          have := (hdone i).2 ⟨f, hf, e⟩
          rw [hnew] at this; cases this
        have step : ∀ (v : Value) (h1 : AHeap) (ef : Bool) (pre' : List (Nat × AHeap)), SK r E ops b A ⟨i, o, t, h, v, h1, ef⟩ → aDraw r E ops b l (done ||| 2 ^ i) (t.put o.dst v) h1 pre' = some (t', h') →
            (∀ f ∈ A ++ [⟨i, o, t, h, v, h1, ef⟩], f.eff = true → (f.i, f.h) ∈ pre') →
            ∃ B, Seg r E ops b A t h B t' h' ∧ ∀ i, i < ops.size → ∃ e ∈ A ++ B, e.i = i := by
          intro v h1 ef pre' hs he hp'
          obtain ⟨B, hseg, hall⟩ := ih (A := A ++ [⟨i, o, t, h, v, h1, ef⟩]) he (fun j => by
            rw [Nat.testBit_or, Nat.testBit_two_pow, Bool.or_eq_true, hdone j]
            simp only [decide_eq_true_eq, List.mem_append, List.mem_singleton]
            constructor
            · rintro (⟨f, h1, h2⟩ | rfl)
              · exact ⟨f, .inl h1, h2⟩
              · exact ⟨_, .inr rfl, rfl⟩
            · rintro ⟨f, (h1 | rfl), h2⟩
              · exact .inl ⟨f, h1, h2⟩
              · exact .inr h2) hp'
          exact ⟨_ :: B, Seg.cons (e := ⟨i, o, t, h, v, h1, ef⟩) ho hb hd hs hseg, fun j hj => by
            obtain ⟨x, hx, hxi⟩ := hall j hj
            exact ⟨x, by simpa using hx, hxi⟩⟩
        have same : ∀ {v : Value} {h1 : AHeap}, ∀ f ∈ A ++ [⟨i, o, t, h, v, h1, false⟩], f.eff = true → (f.i, f.h) ∈ pre := fun f hf he => by
          rcases List.mem_append.1 hf with hf | hf
          · exact hpre f hf he
          · simp at hf; subst hf; cases he
        split at e
        · simp at e
        · rename_i hw
          exact step undef h false pre (.off hw rfl rfl rfl) e same
        · rename_i hw
          split at e
          · rename_i hk
            split at e
            · rename_i v hx
              split at e
              · rename_i hall
                refine step v h false pre (.quiet hw hk hx (fun f hf he => ?_) rfl rfl) e same
                rw [List.all_eq_true] at hall
                have := hall _ (hpre f hf he)
                simp only [Bool.or_eq_true] at this
                refine this.imp id fun h2 => ?_
                split at h2
                · rename_i v' hv'
                  rw [hv', veq_sound 6 v v' h2]
                · simp at h2
              · simp at e
            · simp at e
          · rename_i hk
            split at e
            · rename_i v h1 hx
              exact step v h1 false pre (.alloc hw hk hx rfl) e same
            · simp at e
          · split at e
            · rename_i hq
              have hq := Nat.eq_of_beq_eq_true hq
              split at e
              · rename_i v h1 hx
                refine step v h1 true ((i, h) :: pre) (.eff hw hx (fun f hf => ?_) rfl) e (fun f hf he => ?_)
                · rw [← hq]; exact (hdone _).2 ⟨f, hf, rfl⟩
                · rcases List.mem_append.1 hf with hf | hf
                  · exact List.mem_cons_of_mem _ (hpre f hf he)
                  · simp at hf; subst hf; simp
              · simp at e
            · simp at e

/-! ### Pieces of the way -/
theorem Seg.split : ∀ {B1 A B2 : List Ent} {t : ATmps} {h : AHeap} {t' : ATmps} {h' : AHeap}, Seg r E ops b A t h (B1 ++ B2) t' h' → ∃ t1 h1, Seg r E ops b A t h B1 t1 h1 ∧ Seg r E ops b (A ++ B1) t1 h1 B2 t' h' := by
  intro B1
  induction B1 with
  | nil => intro A B2 t h t' h' s; exact ⟨t, h, .nil, by simpa using s⟩
  | cons e B1 ih =>
    intro A B2 t h t' h' s
    cases s with
    | cons ho hb hd hs rest =>
      obtain ⟨t1, h1, s1, s2⟩ := ih rest
      exact ⟨t1, h1, .cons ho hb hd hs s1, by simpa using s2⟩

def fold (B : List Ent) (t : ATmps) : ATmps := B.foldl (fun t e => t.put e.o.dst e.v) t
theorem fold_append (B C : List Ent) (t : ATmps) : fold (B ++ C) t = fold C (fold B t) := List.foldl_append ..
theorem fold_cons (e : Ent) (C : List Ent) (t : ATmps) : fold (e :: C) t = fold C (t.put e.o.dst e.v) := rfl
theorem fold_n : ∀ (B : List Ent) (t : ATmps), (fold B t).n = t.n := by
  intro B
  induction B with
  | nil => intro t; rfl
  | cons e B ih => intro t; rw [fold_cons, ih, put_n]

theorem Seg.slots {A B : List Ent} {t : ATmps} {h : AHeap} {t' : ATmps} {h' : AHeap} (s : Seg r E ops b A t h B t' h') : t' = fold B t := by
  induction s with
  | nil => rfl
  | cons _ _ _ _ _ ih => rw [ih]; rfl
theorem Seg.at_ {A B : List Ent} {t : ATmps} {h : AHeap} {t' : ATmps} {h' : AHeap} (s : Seg r E ops b A t h B t' h') : ∀ f ∈ B, ops[f.i]? = some f.o := by
  induction s with
  | nil => intro f hf; cases hf
  | cons ho _ _ _ _ ih => intro f hf; rcases List.mem_cons.1 hf with rfl | hf; exact ho; exact ih f hf
theorem Seg.apart {A B : List Ent} {t : ATmps} {h : AHeap} {t' : ATmps} {h' : AHeap} (s : Seg r E ops b A t h B t' h') : ∀ a ∈ A, ∀ f ∈ B, a.i ≠ f.i := by
  induction s with
  | nil => intro a _ f hf; cases hf
  | cons ho _ hd _ _ ih =>
    intro a ha f hf
    rcases List.mem_cons.1 hf with rfl | hf
    · exact hd a ha
    · exact ih a (List.mem_append_left _ ha) f hf
theorem Seg.bits {A B : List Ent} {t : ATmps} {h : AHeap} {t' : ATmps} {h' : AHeap} (s : Seg r E ops b A t h B t' h') : ∀ f ∈ B, ∀ j, (b.getD f.i 0).testBit j = true → ∃ x ∈ A ++ B, x.i = j := by
  induction s with
  | nil => intro f hf; cases hf
  | cons ho hb hd _ _ ih =>
    intro f hf j hj
    rcases List.mem_cons.1 hf with rfl | hf
    · obtain ⟨x, hx, hxj⟩ := hb j hj
      exact ⟨x, List.mem_append_left _ hx, hxj⟩
    · obtain ⟨x, hx, hxj⟩ := ih f hf j hj
      exact ⟨x, by simpa using hx, hxj⟩

theorem SK.next (F : Fits E) (R : RecOK E r) {A : List Ent} {e : Ent} (s : SK r E ops b A e) : e.h.next ≤ e.h'.next := by
  cases s with
  | off _ _ hh => rw [hh]; exact Nat.le_refl _
  | quiet _ _ _ _ hh => rw [hh]; exact Nat.le_refl _
  | alloc _ _ hx => exact aop_next hx
  | eff _ hx => exact (aDo_sound F R hx).1
theorem Seg.next (F : Fits E) (R : RecOK E r) {A B : List Ent} {t : ATmps} {h : AHeap} {t' : ATmps} {h' : AHeap} (s : Seg r E ops b A t h B t' h') :
    h.next ≤ h'.next ∧ ∀ f ∈ B, h.next ≤ f.h.next ∧ f.h.next ≤ f.h'.next ∧ f.h'.next ≤ h'.next := by
  induction s with
  | nil => exact ⟨Nat.le_refl _, fun f hf => by cases hf⟩
  | @cons A e B t1 h1 ho hb hd hs rest ih =>
    have h1 := hs.next F R
    refine ⟨Nat.le_trans h1 ih.1, fun f hf => ?_⟩
    rcases List.mem_cons.1 hf with rfl | hf
    · exact ⟨Nat.le_refl _, h1, ih.1⟩
    · obtain ⟨q1, q2, q3⟩ := ih.2 f hf
      exact ⟨by omega, q2, q3⟩

/-- What a step that is no effect does to the heap. -/
theorem SK.plain {A : List Ent} {e : Ent} (s : SK r E ops b A e) (he : e.eff = false) : e.h' = e.h ∨ ∃ obj, e.h' = e.h.add obj := by
  cases s with
  | off _ _ hh => exact .inl hh
  | quiet _ _ _ _ hh => exact .inl hh
  | alloc _ hk hx => obtain ⟨obj, h1, _⟩ := alloc_form hk hx; exact .inr ⟨obj, h1⟩
  | eff _ _ _ h => rw [he] at h; cases h

theorem Seg.heap {A B : List Ent} {t : ATmps} {h : AHeap} {t' : ATmps} {h' : AHeap} (s : Seg r E ops b A t h B t' h') (hn : ∀ f ∈ B, f.eff = false) :
    (h.ok → h'.ok) ∧ ∀ x o, h'.get x = some o → h.get x = some o ∨ ∃ f ∈ B, f.h.next = x ∧ f.h' = f.h.add o := by
  induction s with
  | nil => exact ⟨id, fun x o hx => .inl hx⟩
  | @cons A e B t1 h1 ho hb hd hs rest ih =>
    obtain ⟨i1, i2⟩ := ih fun f hf => hn f (List.mem_cons_of_mem _ hf)
    rcases hs.plain (hn e (by simp)) with hh | ⟨obj, hh⟩
    · rw [hh] at i1 i2
      refine ⟨i1, fun x o hx => ?_⟩
      rcases i2 x o hx with h1 | ⟨f, hf, h2⟩
      · exact .inl h1
      · exact .inr ⟨f, List.mem_cons_of_mem _ hf, h2⟩
    · rw [hh] at i1 i2
      refine ⟨fun hok => i1 (hok.add obj), fun x o hx => ?_⟩
      rcases i2 x o hx with h1 | ⟨f, hf, h2⟩
      · rw [AHeap.get_add] at h1
        by_cases ex : x = e.h.next
        · rw [if_pos ex] at h1; cases h1
          exact .inr ⟨e, by simp, ex.symm, hh⟩
        · rw [if_neg ex] at h1; exact .inl h1
      · exact .inr ⟨f, List.mem_cons_of_mem _ hf, h2⟩

/-! ### The slots -/
def wr (x : Nat) (e : Ent) : Bool := decide (e.o.dst = some x)
theorem fold_filter (x : Nat) : ∀ (l : List Ent) (t t' : ATmps), t.n = t'.n → t.get x = t'.get x → (fold l t).get x = (fold (l.filter (wr x)) t').get x := by
  intro l
  induction l with
  | nil => intro t t' _ h; exact h
  | cons e l ih =>
    intro t t' hn hg
    rw [fold_cons]
    by_cases hw : wr x e = true
    · rw [List.filter_cons_of_pos hw, fold_cons]
      refine ih _ _ (by rw [put_n, put_n, hn]) ?_
      rw [get_put, get_put, hn, hg]
    · rw [List.filter_cons_of_neg hw]
      refine ih _ _ (by rw [put_n, hn]) ?_
      rw [get_put, if_neg (fun h => hw (by simp [wr, h.1])), hg]
theorem fold_get {x : Nat} {l1 l2 : List Ent} {t : ATmps} (h : l1.filter (wr x) = l2.filter (wr x)) : (fold l1 t).get x = (fold l2 t).get x := by
  rw [fold_filter x l1 t t rfl rfl, fold_filter x l2 t t rfl rfl, h]
end
end
end Go.Abs
end
section
/-! A region that draws its order is sound. -/
namespace Go.Abs
noncomputable section

section
variable {r : Rec} {E : Env} {ops : Array Oper}

/-- How far the machine is: S, what it has done; A, t, h: where the evaluator's way stands behind the last effect done; B: its way from there. -/
structure Inv (r : Rec) (E : Env) (ops : Array Oper) (tf : ATmps) (hf : AHeap) (ρ0 : Ren) (g0 : Got) (n0 : Nat) (w0 : World) (d0 : List Deferred)
    (S : Nat → Bool) (ρ : Ren) (G : Got) (w : World) (a : Act) (A : List Ent) (t : ATmps) (h : AHeap) (B : List Ent) : Prop where
  seg : Seg r E ops (bits ops) A t h B tf hf
  all : ∀ i, i < ops.size → ∃ e ∈ A ++ B, e.i = i
  inA : ∀ e ∈ A, S e.i = true
  noeff : ∀ e ∈ B, S e.i = true → e.eff = false
  down : ∀ i j, S i = true → ((bits ops).getD i 0).testBit j = true → S j = true
  hr : HR ρ G w
  lo : ∀ x, x < h.next → G x = h.get x
  hi : ∀ x o, h.next ≤ x → (G x = some o ↔ ∃ e ∈ B, S e.i = true ∧ e.h.next = x ∧ e.h' = e.h.add o)
  ok : h.ok
  fr : ∀ e ∈ B, S e.i = false → Fresh ρ e.h.next e.h'.next
  tm : TR ρ (fold (B.filter fun e => S e.i) t) a.tmps
  df : a.defers = d0
  gok : GOK E.P ρ
  mv : Moves ρ0 g0 n0 w0 ρ G hf.next w
  n0h : n0 ≤ h.next

variable {tf : ATmps} {hf : AHeap} {ρ0 : Ren} {g0 : Got} {n0 : Nat} {w0 : World} {d0 : List Deferred} {S : Nat → Bool} {ρ : Ren} {G : Got} {w : World} {a : Act} {A : List Ent} {t : ATmps} {h : AHeap} {B : List Ent}

/-- What a heap on the way names, and the renaming knows, is tracked. -/
theorem Inv.known (F : Fits E) (R : RecOK E r) (I : Inv r E ops tf hf ρ0 g0 n0 w0 d0 S ρ G w a A t h B) {C : List Ent} {t1 : ATmps} {h1 : AHeap} (s : Seg r E ops (bits ops) A t h C t1 h1) (hn : ∀ f ∈ C, f.eff = false) (hC : ∀ f ∈ C, f ∈ B)
    {x : Nat} {o : AObj} (hx : h1.get x = some o) (hρ : ρ x ≠ none ∨ ∀ f ∈ C, S f.i = true) : G x = some o := by
  rcases (s.heap hn).2 x o hx with h2 | ⟨f, hf, h2, h3⟩
  · rw [I.lo x (I.ok x o h2)]; exact h2
  · have hfn := (s.next F R).2 f hf
    rw [I.hi x o (by omega)]
    refine ⟨f, hC f hf, ?_, h2, h3⟩
    rcases hρ with hρ | hS
    · cases hSf : S f.i with
      | true => rfl
      | false => exact absurd (I.fr f (hC f hf) hSf x (by omega) (by rw [h3]; simp only [AHeap.add_next]; omega)) hρ
    · exact hS f hf

theorem Inv.quiet (F : Fits E) (R : RecOK E r) (I : Inv r E ops tf hf ρ0 g0 n0 w0 d0 S ρ G w a A t h B) {C : List Ent} {t1 : ATmps} {h1 : AHeap} (s : Seg r E ops (bits ops) A t h C t1 h1) (hn : ∀ f ∈ C, f.eff = false) (hC : ∀ f ∈ C, f ∈ B) :
    HQ ρ h1.get w := by
  have key : ∀ {x o l}, h1.get x = some o → ρ x = some l → G x = some o := fun hx hl => I.known F R s hn hC hx (.inl (by rw [hl]; simp))
  exact ⟨fun x o l hx hl => I.hr.get (key hx hl) hl, fun i j oi oj li lj hi hj hli hlj hij => I.hr.inj i j oi oj li lj (key hi hli) (key hj hlj) hli hlj hij⟩

/-! ### Slots -/
theorem Inv.slots (I : Inv r E ops tf hf ρ0 g0 n0 w0 d0 S ρ G w a A t h B) (hsl : slotsOK ops (bits ops) = true) {B1 B2 : List Ent} {e : Ent} (hB : B = B1 ++ e :: B2) (hS : S e.i = false)
    (hready : ∀ j, ((bits ops).getD e.i 0).testBit j = true → S j = true) {x : Nat} (hx : x ∈ nm ops e.o) :
    (B1.filter fun f => S f.i).filter (wr x) = B1.filter (wr x) ∧ (B2.filter fun f => S f.i).filter (wr x) = [] := by
  have s := I.seg
  rw [hB] at s
  obtain ⟨t1, h1, s1, s2⟩ := s.split
  have heo : ops[e.i]? = some e.o := s2.at_ e (by simp)
  have hat : ∀ f ∈ B1 ++ e :: B2, ops[f.i]? = some f.o := s.at_
  have hne1 : ∀ f ∈ B1, f.i ≠ e.i := fun f hf => s2.apart f (List.mem_append_right _ hf) e (by simp)
  have hne2 : ∀ f ∈ B2, f.i ≠ e.i := fun f hf => by
    cases s2 with
    | cons ho hb hd hs rest => exact fun h => rest.apart e (by simp) f hf h.symm
  have cmp : ∀ f ∈ B1 ++ e :: B2, wr x f = true → f.i ≠ e.i → ((bits ops).getD f.i 0).testBit e.i = true ∨ ((bits ops).getD e.i 0).testBit f.i = true := fun f hf hw hne =>
    slotsOK_spec hsl heo (hat f hf) (by simpa [wr] using hw) hx hne
  constructor
  · rw [List.filter_filter]
    refine List.filter_congr fun f hf => ?_
    cases hw : wr x f with
    | false => rfl
    | true =>
      rcases cmp f (by simp [hf]) hw (hne1 f hf) with h | h
      · obtain ⟨y, hy, hyi⟩ := s1.bits f hf _ h
        exact absurd hyi (s2.apart y hy e (by simp))
      · simp [hready _ h]
  · rw [List.filter_eq_nil_iff]
    intro f hf hw
    obtain ⟨hf, hSf⟩ := List.mem_filter.1 hf
    rcases cmp f (by simp [hf]) hw (hne2 f hf) with h | h
    · rw [I.down _ _ hSf h] at hS; cases hS
    · cases s2 with
      | cons ho hb hd hs rest =>
        obtain ⟨y, hy, hyi⟩ := hb _ h
        exact rest.apart y (List.mem_append_left _ hy) f hf hyi

def addS (S : Nat → Bool) (i : Nat) : Nat → Bool := fun j => S j || Nat.beq j i
theorem addS_same (S : Nat → Bool) (i : Nat) : addS S i i = true := by simp [addS, Nat.beq_refl]
theorem addS_ne {S : Nat → Bool} {i j : Nat} (h : j ≠ i) : addS S i j = S j := by
  have : Nat.beq j i = false := by
    cases hb : Nat.beq j i with
    | false => rfl
    | true => exact absurd (Nat.eq_of_beq_eq_true hb) h
  simp [addS, this]
theorem addS_le {S : Nat → Bool} {i j : Nat} (h : S j = true) : addS S i j = true := by simp [addS, h]
theorem addS_inv {S : Nat → Bool} {i j : Nat} (h : addS S i j = true) : j = i ∨ S j = true := by
  simp [addS] at h
  rcases h with h | h
  · exact .inr h
  · exact .inl h

theorem Inv.split (I : Inv r E ops tf hf ρ0 g0 n0 w0 d0 S ρ G w a A t h B) {i : Nat} (hi : i < ops.size) (hS : S i = false) : ∃ B1 e B2, B = B1 ++ e :: B2 ∧ e.i = i := by
  obtain ⟨e, he, hei⟩ := I.all i hi
  rcases List.mem_append.1 he with he | he
  · rw [← hei, I.inA e he] at hS; cases hS
  · obtain ⟨B1, B2, hB⟩ := List.append_of_mem he
    exact ⟨B1, e, B2, hB, hei⟩

/-- The slots when e is done. -/
theorem Inv.slots' (I : Inv r E ops tf hf ρ0 g0 n0 w0 d0 S ρ G w a A t h B) (hsl : slotsOK ops (bits ops) = true) {B1 B2 : List Ent} {e : Ent} (hB : B = B1 ++ e :: B2) (hS : S e.i = false)
    (hready : ∀ j, ((bits ops).getD e.i 0).testBit j = true → S j = true) :
    (∀ x ∈ nm ops e.o, (fold (B.filter fun f => S f.i) t).get x = e.t.get x) ∧
    ∀ x, (fold (B.filter fun f => addS S e.i f.i) t).get x = ((fold (B.filter fun f => S f.i) t).put e.o.dst e.v).get x := by
  have s := I.seg
  rw [hB] at s
  obtain ⟨t1, h1, s1, s2⟩ := s.split
  have hne1 : ∀ f ∈ B1, f.i ≠ e.i := fun f hf => s2.apart f (List.mem_append_right _ hf) e (by simp)
  have hne2 : ∀ f ∈ B2, f.i ≠ e.i := fun f hf => by
    cases s2 with
    | cons ho hb hd hs rest => exact fun h => rest.apart e (by simp) f hf h.symm
  have het : e.t = fold B1 t := by
    have ht1 := s1.slots
    cases s2 with
    | cons ho hb hd hs rest => exact ht1
  have hBS : B.filter (fun f => S f.i) = B1.filter (fun f => S f.i) ++ B2.filter (fun f => S f.i) := by
    rw [hB, List.filter_append, List.filter_cons_of_neg (by simp [hS])]
  have hBS' : B.filter (fun f => addS S e.i f.i) = B1.filter (fun f => S f.i) ++ e :: B2.filter (fun f => S f.i) := by
    rw [hB, List.filter_append, List.filter_cons_of_pos (by simp [addS_same]), List.filter_congr (q := fun f => S f.i) (l := B1) fun f hf => addS_ne (hne1 f hf), List.filter_congr (q := fun f => S f.i) (l := B2) fun f hf => addS_ne (hne2 f hf)]
  constructor
  · intro x hx
    obtain ⟨q1, q2⟩ := I.slots hsl hB hS hready hx
    rw [het]
    refine fold_get ?_
    rw [hBS, List.filter_append, q1, q2, List.append_nil]
  · intro x
    rw [get_put, fold_n]
    by_cases hd : e.o.dst = some x
    · have hx : x ∈ nm ops e.o := List.mem_append_left _ (by simp [hd])
      obtain ⟨q1, q2⟩ := I.slots hsl hB hS hready hx
      have hw : wr x e = true := by simp [wr, hd]
      have e1 : (fold (B.filter fun f => addS S e.i f.i) t).get x = (fold (B1.filter (wr x) ++ [e]) t).get x := by
        refine fold_get ?_
        rw [hBS', List.filter_append, List.filter_cons_of_pos hw, q1, q2, List.filter_append, List.filter_filter, List.filter_cons_of_pos hw]
        simp
      rw [e1, fold_append, fold_cons]
      show ((fold (B1.filter (wr x)) t).put e.o.dst e.v).get x = _
      rw [get_put, fold_n]
      by_cases hlt : x < t.n
      · simp [hd, hlt]
      · simp only [hlt, and_false, if_false]
        refine fold_get ?_
        rw [hBS, List.filter_append, q1, q2, List.filter_filter]; simp
    · rw [if_neg fun h => hd h.1]
      refine fold_get ?_
      have hw : ¬ wr x e = true := by simp [wr, hd]
      rw [hBS, hBS', List.filter_append, List.filter_append, List.filter_cons_of_neg hw]
end
end
end Go.Abs
end
