/- Proved here: tries, values under renamings, and heaps that a run may turn (what is tracked, what stays). By an AI agent. -/
import Derived.CallsIn
set_option linter.unusedVariables false
set_option linter.unusedSimpArgs false
section
/-! Finite maps from numbers, as binary tries: what the abstract evaluator keeps its slots, cells and blocks in. -/
namespace Go.Abs

inductive Tri (α : Type) where
  | leaf
  | node (v : Option α) (l r : Tri α)
  deriving Inhabited

namespace Tri
noncomputable section
variable {α : Type}

def get0 : Tri α → Nat → Option α
  | .leaf, _ => none
  | .node v l r, i =>
    match i with
    | 0 => v
    | j + 1 => match Nat.beq (j % 2) 0 with
      | true => l.get0 (j / 2)
      | false => r.get0 (j / 2)

def putF0 : Nat → Tri α → Nat → Option α → Tri α
  | 0, t, _, _ => t
  | f + 1, .leaf, i, x =>
    match i with
    | 0 => .node x .leaf .leaf
    | j + 1 => match Nat.beq (j % 2) 0 with
      | true => .node none (putF0 f .leaf (j / 2) x) .leaf
      | false => .node none .leaf (putF0 f .leaf (j / 2) x)
  | f + 1, .node v l r, i, x =>
    match i with
    | 0 => .node x l r
    | j + 1 => match Nat.beq (j % 2) 0 with
      | true => .node v (putF0 f l (j / 2) x) r
      | false => .node v l (putF0 f r (j / 2) x)

theorem get0_leaf (i : Nat) : (Tri.leaf : Tri α).get0 i = none := by simp [get0]

theorem get0_putF0 : ∀ (f : Nat) (t : Tri α) (i : Nat) (x : Option α) (j : Nat), i < f → (putF0 f t i x).get0 j = if j = i then x else t.get0 j := by
  intro f
  induction f with
  | zero => intro t i x j h; omega
  | succ f ih =>
    intro t i x j h
    cases t with
    | leaf =>
      cases i with
      | zero =>
        cases j with
        | zero => simp [putF0, get0]
        | succ j => simp only [putF0, get0]; split <;> simp
      | succ i =>
        simp only [putF0]
        cases hb : Nat.beq (i % 2) 0 with
        | true =>
          cases j with
          | zero => simp [get0]
          | succ j =>
            simp only [get0]
            cases hc : Nat.beq (j % 2) 0 with
            | true =>
              simp only []
              rw [ih _ _ _ _ (by omega)]
              have h1 : i % 2 = 0 := Nat.eq_of_beq_eq_true hb
              have h2 : j % 2 = 0 := Nat.eq_of_beq_eq_true hc
              by_cases e : j = i
              · subst e; simp
              · have : j / 2 ≠ i / 2 := by omega
                simp [e, this, get0]
            | false =>
              have h1 : i % 2 = 0 := Nat.eq_of_beq_eq_true hb
              have h2 : j % 2 ≠ 0 := Nat.ne_of_beq_eq_false hc
              have e : j ≠ i := by intro e; subst e; exact h2 h1
              simp [e]
        | false =>
          cases j with
          | zero => simp [get0]
          | succ j =>
            simp only [get0]
            cases hc : Nat.beq (j % 2) 0 with
            | true =>
              have h1 : i % 2 ≠ 0 := Nat.ne_of_beq_eq_false hb
              have h2 : j % 2 = 0 := Nat.eq_of_beq_eq_true hc
              have e : j ≠ i := by intro e; subst e; exact h1 h2
              simp [e]
            | false =>
              simp only []
              rw [ih _ _ _ _ (by omega)]
              have h1 : i % 2 ≠ 0 := Nat.ne_of_beq_eq_false hb
              have h2 : j % 2 ≠ 0 := Nat.ne_of_beq_eq_false hc
              by_cases e : j = i
              · subst e; simp
              · have : j / 2 ≠ i / 2 := by omega
                simp [e, this, get0]
    | node v l r =>
      cases i with
      | zero => cases j <;> simp [putF0, get0]
      | succ i =>
        simp only [putF0]
        cases hb : Nat.beq (i % 2) 0 with
        | true =>
          cases j with
          | zero => simp [get0]
          | succ j =>
            simp only [get0]
            cases hc : Nat.beq (j % 2) 0 with
            | true =>
              simp only []
              rw [ih _ _ _ _ (by omega)]
              have h1 : i % 2 = 0 := Nat.eq_of_beq_eq_true hb
              have h2 : j % 2 = 0 := Nat.eq_of_beq_eq_true hc
              by_cases e : j = i
              · subst e; simp
              · have : j / 2 ≠ i / 2 := by omega
                simp [e, this]
            | false =>
              have h1 : i % 2 = 0 := Nat.eq_of_beq_eq_true hb
              have h2 : j % 2 ≠ 0 := Nat.ne_of_beq_eq_false hc
              have e : j ≠ i := by intro e; subst e; exact h2 h1
              simp [e]
        | false =>
          cases j with
          | zero => simp [get0]
          | succ j =>
            simp only [get0]
            cases hc : Nat.beq (j % 2) 0 with
            | true =>
              have h1 : i % 2 ≠ 0 := Nat.ne_of_beq_eq_false hb
              have h2 : j % 2 = 0 := Nat.eq_of_beq_eq_true hc
              have e : j ≠ i := by intro e; subst e; exact h1 h2
              simp [e]
            | false =>
              simp only []
              rw [ih _ _ _ _ (by omega)]
              have h1 : i % 2 ≠ 0 := Nat.ne_of_beq_eq_false hb
              have h2 : j % 2 ≠ 0 := Nat.ne_of_beq_eq_false hc
              by_cases e : j = i
              · subst e; simp
              · have : j / 2 ≠ i / 2 := by omega
                simp [e, this]


/-! The same by the bare recursors: what the kernel runs. -/
def get (t : Tri α) : Nat → Option α :=
  Tri.rec (motive := fun _ => Nat → Option α) (fun _ => none)
    (fun v _ _ gl gr i => Nat.rec (motive := fun _ => Option α) v (fun j _ => Bool.rec (motive := fun _ => Option α) (gr (Nat.div j 2)) (gl (Nat.div j 2)) (Nat.beq (Nat.mod j 2) 0)) i) t
def putF (f : Nat) : Tri α → Nat → Option α → Tri α :=
  Nat.rec (motive := fun _ => Tri α → Nat → Option α → Tri α) (fun t _ _ => t)
    (fun _ ih t i x => Tri.rec (motive := fun _ => Tri α)
      (Nat.rec (motive := fun _ => Tri α) (.node x .leaf .leaf) (fun j _ => Bool.rec (motive := fun _ => Tri α) (.node none .leaf (ih .leaf (Nat.div j 2) x)) (.node none (ih .leaf (Nat.div j 2) x) .leaf) (Nat.beq (Nat.mod j 2) 0)) i)
      (fun v l r _ _ => Nat.rec (motive := fun _ => Tri α) (.node x l r) (fun j _ => Bool.rec (motive := fun _ => Tri α) (.node v l (ih r (Nat.div j 2) x)) (.node v (ih l (Nat.div j 2) x) r) (Nat.beq (Nat.mod j 2) 0)) i) t) f
def put (t : Tri α) (i : Nat) (x : Option α) : Tri α := putF (Nat.succ i) t i x
def set (t : Tri α) (i : Nat) (x : α) : Tri α := putF (Nat.succ i) t i (some x)
def del (t : Tri α) (i : Nat) : Tri α := putF (Nat.succ i) t i none

theorem get_eq : ∀ (t : Tri α) (i : Nat), t.get i = t.get0 i := by
  intro t
  induction t with
  | leaf => intro i; simp [get0]; rfl
  | node v l r ihl ihr =>
    intro i
    cases i with
    | zero => simp [get0]; rfl
    | succ j =>
      simp only [get0]
      rw [← ihl, ← ihr]
      show Bool.rec (motive := fun _ => Option α) (get r (Nat.div j 2)) (get l (Nat.div j 2)) (Nat.beq (Nat.mod j 2) 0) = _
      have : Nat.beq (Nat.mod j 2) 0 = Nat.beq (j % 2) 0 := rfl
      rw [this]
      cases Nat.beq (j % 2) 0 <;> rfl
theorem putF_eq : ∀ (f : Nat) (t : Tri α) (i : Nat) (x : Option α), putF f t i x = putF0 f t i x := by
  intro f
  induction f with
  | zero => intro t i x; simp [putF0]; rfl
  | succ f ih =>
    intro t i x
    cases t with
    | leaf =>
      cases i with
      | zero => simp [putF0]; rfl
      | succ j =>
        simp only [putF0]
        rw [← ih]
        show Bool.rec (motive := fun _ => Tri α) (.node none .leaf (putF f .leaf (Nat.div j 2) x)) (.node none (putF f .leaf (Nat.div j 2) x) .leaf) (Nat.beq (Nat.mod j 2) 0) = _
        have : Nat.beq (Nat.mod j 2) 0 = Nat.beq (j % 2) 0 := rfl
        rw [this]
        cases Nat.beq (j % 2) 0 <;> rfl
    | node v l r =>
      cases i with
      | zero => simp [putF0]; rfl
      | succ j =>
        simp only [putF0]
        rw [← ih, ← ih]
        show Bool.rec (motive := fun _ => Tri α) (.node v l (putF f r (Nat.div j 2) x)) (.node v (putF f l (Nat.div j 2) x) r) (Nat.beq (Nat.mod j 2) 0) = _
        have : Nat.beq (Nat.mod j 2) 0 = Nat.beq (j % 2) 0 := rfl
        rw [this]
        cases Nat.beq (j % 2) 0 <;> rfl

theorem get_leaf (i : Nat) : (Tri.leaf : Tri α).get i = none := rfl
theorem get_put (t : Tri α) (i : Nat) (x : Option α) (j : Nat) : (t.put i x).get j = if j = i then x else t.get j := by
  rw [get_eq, get_eq, put, putF_eq]; exact get0_putF0 _ _ _ _ _ (Nat.lt_succ_self _)
theorem get_set (t : Tri α) (i : Nat) (x : α) (j : Nat) : (t.set i x).get j = if j = i then some x else t.get j := get_put _ _ _ _
theorem get_del (t : Tri α) (i : Nat) (j : Nat) : (t.del i).get j = if j = i then none else t.get j := get_put _ _ _ _
theorem get_set_same (t : Tri α) (i : Nat) (x : α) : (t.set i x).get i = some x := by simp [get_set]
theorem get_set_ne (t : Tri α) {i j : Nat} (x : α) (h : j ≠ i) : (t.set i x).get j = t.get j := by simp [get_set, h]

/-- A list laid from a place on. -/
def fill (t : Tri α) (i : Nat) (xs : List α) : Tri α :=
  List.rec (motive := fun _ => Tri α → Nat → Tri α) (fun t _ => t) (fun x _ ih t i => ih (putF (Nat.succ i) t i (some x)) (Nat.succ i)) xs t i
theorem fill_nil (t : Tri α) (i : Nat) : fill t i [] = t := rfl
theorem fill_cons (t : Tri α) (i : Nat) (x : α) (xs : List α) : fill t i (x :: xs) = fill (t.set i x) (i + 1) xs := rfl
def ofList (xs : List α) : Tri α := fill .leaf 0 xs

theorem get_fill : ∀ (xs : List α) (t : Tri α) (i j : Nat), (fill t i xs).get j = if i ≤ j ∧ j < i + xs.length then xs[j - i]? else t.get j := by
  intro xs
  induction xs with
  | nil => intro t i j; simp [fill_nil]; intro h1 h2; omega
  | cons x xs ih =>
    intro t i j
    simp only [fill_cons, ih, get_set, List.length_cons]
    by_cases h : i + 1 ≤ j ∧ j < i + 1 + xs.length
    · rw [if_pos h, if_pos (by omega)]
      obtain ⟨d, hd⟩ : ∃ d, j - i = d + 1 := ⟨j - i - 1, by omega⟩
      have : j - (i + 1) = d := by omega
      rw [hd, this]; simp
    · rw [if_neg h]
      by_cases e : j = i
      · subst e; simp
      · rw [if_neg e, if_neg (by omega)]

theorem get_ofList (xs : List α) (j : Nat) : (ofList xs).get j = xs[j]? := by
  simp only [ofList, get_fill, get_leaf, Nat.zero_le, true_and, Nat.zero_add, Nat.sub_zero]
  split
  · rfl
  · rename_i h; simp at h; simp [h]

/-- n cells from a place on; none if one is missing. -/
def take (t : Tri α) (i n : Nat) : Option (List α) :=
  Nat.rec (motive := fun _ => Nat → Option (List α)) (fun _ => some [])
    (fun _ ih i => Option.rec (motive := fun _ => Option (List α)) none (fun x => Option.rec (motive := fun _ => Option (List α)) none (fun xs => some (x :: xs)) (ih (Nat.succ i))) (t.get i)) n i
theorem take_zero (t : Tri α) (i : Nat) : take t i 0 = some [] := rfl
theorem take_succ (t : Tri α) (i n : Nat) : take t i (n + 1) = match t.get i with
    | none => none
    | some x => match take t (i + 1) n with
      | none => none
      | some xs => some (x :: xs) := by
  show Option.rec (motive := fun _ => Option (List α)) none (fun x => Option.rec (motive := fun _ => Option (List α)) none (fun xs => some (x :: xs)) (take t (i + 1) n)) (t.get i) = _
  cases t.get i with
  | none => rfl
  | some x => cases take t (i + 1) n <;> rfl

theorem take_some {t : Tri α} : ∀ {n i : Nat} {xs : List α}, take t i n = some xs → xs.length = n ∧ ∀ j, j < n → t.get (i + j) = xs[j]? := by
  intro n
  induction n with
  | zero => intro i xs h; simp [take_zero] at h; subst h; exact ⟨rfl, fun j hj => by omega⟩
  | succ n ih =>
    intro i xs h
    simp only [take_succ] at h
    split at h
    · simp at h
    · rename_i x hx
      split at h
      · simp at h
      · rename_i ys hys
        simp at h; subst h
        obtain ⟨h1, h2⟩ := ih hys
        refine ⟨by simp [h1], fun j hj => ?_⟩
        cases j with
        | zero => simpa using hx
        | succ j => rw [show i + (j + 1) = i + 1 + j from by omega]; simpa using h2 j (by omega)

end
end Tri

/-- A map from numbers: a trie, or a list laid from 0 on. -/
inductive Trie (α : Type) where
  | tri (t : Tri α)
  | list (xs : List α)
  deriving Inhabited

namespace Trie
noncomputable section
variable {α : Type}

def nth (xs : List α) (i : Nat) : Option α :=
  List.rec (motive := fun _ => Nat → Option α) (fun _ => none) (fun x _ ih i => Nat.rec (motive := fun _ => Option α) (some x) (fun j _ => ih j) i) xs i
theorem nth_eq : ∀ (xs : List α) (i : Nat), nth xs i = xs[i]? := by
  intro xs
  induction xs with
  | nil => intro i; rfl
  | cons x xs ih =>
    intro i
    cases i with
    | zero => rfl
    | succ j => show nth xs j = _; rw [ih]; simp

/-- A place of a list turned; none if there is no such place. -/
def setL (xs : List α) (i : Nat) (v : α) : Option (List α) :=
  List.rec (motive := fun _ => Nat → Option (List α)) (fun _ => none)
    (fun x xs ih i => Nat.rec (motive := fun _ => Option (List α)) (some (v :: xs)) (fun j _ => Option.rec (motive := fun _ => Option (List α)) none (fun ys => some (x :: ys)) (ih j)) i) xs i
theorem setL_eq (v : α) : ∀ (xs : List α) (i : Nat) (ys : List α), setL xs i v = some ys → i < xs.length ∧ ∀ j, ys[j]? = if j = i then some v else xs[j]? := by
  intro xs
  induction xs with
  | nil => intro i ys h; cases h
  | cons x xs ih =>
    intro i ys h
    cases i with
    | zero =>
      have h : some (v :: xs) = some ys := h
      cases h
      refine ⟨by simp, fun j => ?_⟩
      cases j <;> simp
    | succ i =>
      have h : Option.rec (motive := fun _ => Option (List α)) none (fun ys => some (x :: ys)) (setL xs i v) = some ys := h
      cases hs : setL xs i v with
      | none => rw [hs] at h; cases h
      | some zs =>
        rw [hs] at h
        cases h
        obtain ⟨h1, h2⟩ := ih i zs hs
        refine ⟨by simp; omega, fun j => ?_⟩
        cases j with
        | zero => simp
        | succ j => simp [h2 j]

/-- A list laid over another one from a place on; none if it reaches beyond. -/
def overL (ys : List α) (i : Nat) (xs : List α) : Option (List α) :=
  List.rec (motive := fun _ => Nat → List α → Option (List α))
    (fun _ xs => List.rec (motive := fun _ => Option (List α)) (some []) (fun _ _ _ => none) xs)
    (fun y ys ih i xs => List.rec (motive := fun _ => Option (List α)) (some (y :: ys))
      (fun x xs' _ => Nat.rec (motive := fun _ => Option (List α)) (Option.rec (motive := fun _ => Option (List α)) none (fun zs => some (x :: zs)) (ih 0 xs'))
        (fun j _ => Option.rec (motive := fun _ => Option (List α)) none (fun zs => some (y :: zs)) (ih j xs)) i) xs) ys i xs
theorem overL_eq : ∀ (ys : List α) (i : Nat) (xs zs : List α), overL ys i xs = some zs → ∀ j, zs[j]? = if i ≤ j ∧ j < i + xs.length then xs[j - i]? else ys[j]? := by
  intro ys
  induction ys with
  | nil =>
    intro i xs zs h j
    cases xs with
    | nil =>
      have h : some [] = some zs := h
      cases h
      simp
    | cons x xs => cases h
  | cons y ys ih =>
    intro i xs zs h j
    cases xs with
    | nil =>
      have h : some (y :: ys) = some zs := h
      cases h
      rw [if_neg (by simp only [List.length_nil]; omega)]
    | cons x xs =>
      cases i with
      | zero =>
        have h : Option.rec (motive := fun _ => Option (List α)) none (fun zs => some (x :: zs)) (overL ys 0 xs) = some zs := h
        cases hs : overL ys 0 xs with
        | none => rw [hs] at h; cases h
        | some ws =>
          rw [hs] at h
          cases h
          have := ih 0 xs ws hs
          cases j with
          | zero => simp
          | succ j => simp only [List.getElem?_cons_succ, this j]; simp
      | succ i =>
        have h : Option.rec (motive := fun _ => Option (List α)) none (fun zs => some (y :: zs)) (overL ys i (x :: xs)) = some zs := h
        cases hs : overL ys i (x :: xs) with
        | none => rw [hs] at h; cases h
        | some ws =>
          rw [hs] at h
          cases h
          have := ih i (x :: xs) ws hs
          cases j with
          | zero => simp
          | succ j =>
            simp only [List.getElem?_cons_succ, this j]
            by_cases c : i ≤ j ∧ j < i + (x :: xs).length
            · rw [if_pos c, if_pos (by omega)]
              rw [show j + 1 - (i + 1) = j - i from by omega]
            · rw [if_neg c, if_neg (by omega)]

/-- n places from one on; none if one is missing. -/
def takeL (xs : List α) (i n : Nat) : Option (List α) :=
  List.rec (motive := fun _ => Nat → Nat → Option (List α)) (fun _ n => Nat.rec (motive := fun _ => Option (List α)) (some []) (fun _ _ => none) n)
    (fun x _ ih i n => Nat.rec (motive := fun _ => Option (List α)) (Nat.rec (motive := fun _ => Option (List α)) (some []) (fun m _ => Option.rec (motive := fun _ => Option (List α)) none (fun ys => some (x :: ys)) (ih 0 m)) n)
      (fun j _ => ih j n) i) xs i n
theorem takeL_nil (i n : Nat) : takeL ([] : List α) i n = match n with | 0 => some [] | _ + 1 => none := by cases n <;> rfl
theorem takeL_zero (x : α) (xs : List α) (n : Nat) : takeL (x :: xs) 0 (n + 1) = match takeL xs 0 n with | none => none | some ys => some (x :: ys) := by
  show Option.rec (motive := fun _ => Option (List α)) none (fun ys => some (x :: ys)) (takeL xs 0 n) = _
  cases takeL xs 0 n <;> rfl
theorem takeL_succ (x : α) (xs : List α) (i n : Nat) : takeL (x :: xs) (i + 1) n = takeL xs i n := rfl
theorem takeL_none : ∀ (xs : List α) (i : Nat), takeL xs i 0 = some [] := by
  intro xs
  induction xs with
  | nil => intro i; rfl
  | cons x xs ih => intro i; cases i with
    | zero => rfl
    | succ i => exact ih i
theorem takeL_step : ∀ (xs : List α) (i n : Nat), takeL xs i (n + 1) = match xs[i]? with
    | none => none
    | some x => match takeL xs (i + 1) n with
      | none => none
      | some ys => some (x :: ys) := by
  intro xs
  induction xs with
  | nil => intro i n; rfl
  | cons x xs ih =>
    intro i n
    cases i with
    | zero => rw [takeL_zero]; rfl
    | succ i => rw [takeL_succ, ih]; rfl

def toTri (t : Trie α) : Tri α := Trie.rec (motive := fun _ => Tri α) (fun t => t) (fun xs => Tri.ofList xs) t
def leaf : Trie α := .tri .leaf
def get (t : Trie α) (i : Nat) : Option α := Trie.rec (motive := fun _ => Nat → Option α) (fun t i => t.get i) (fun xs i => nth xs i) t i
theorem get_toTri (t : Trie α) (i : Nat) : t.get i = t.toTri.get i := by
  cases t with
  | tri t => rfl
  | list xs => show nth xs i = (Tri.ofList xs).get i; rw [nth_eq, Tri.get_ofList]
def set (t : Trie α) (i : Nat) (x : α) : Trie α :=
  Trie.rec (motive := fun _ => Nat → α → Trie α) (fun t i x => .tri (t.set i x))
    (fun xs i x => Bool.rec (motive := fun _ => Trie α) (.tri ((Tri.ofList xs).set i x)) (Option.rec (motive := fun _ => Trie α) (.tri ((Tri.ofList xs).set i x)) (fun ys => .list ys) (setL xs i x)) (Nat.ble i 40)) t i x
def del (t : Trie α) (i : Nat) : Trie α := .tri (t.toTri.del i)

theorem get_leaf (i : Nat) : (leaf : Trie α).get i = none := rfl
theorem get_set (t : Trie α) (i : Nat) (x : α) (j : Nat) : (t.set i x).get j = if j = i then some x else t.get j := by
  cases t with
  | tri t => exact Tri.get_set t i x j
  | list xs =>
    have hd : ((Tri.ofList xs).set i x).get j = if j = i then some x else nth xs j := by rw [Tri.get_set, Tri.get_ofList, nth_eq]
    show get (Bool.rec (motive := fun _ => Trie α) (.tri ((Tri.ofList xs).set i x)) (Option.rec (motive := fun _ => Trie α) (.tri ((Tri.ofList xs).set i x)) (fun ys => .list ys) (setL xs i x)) (Nat.ble i 40)) j = if j = i then some x else nth xs j
    cases Nat.ble i 40 with
    | false => exact hd
    | true =>
      cases hs : setL xs i x with
      | none => exact hd
      | some ys =>
        show nth ys j = _
        rw [nth_eq, nth_eq, (setL_eq x xs i ys hs).2]
theorem get_del (t : Trie α) (i : Nat) (j : Nat) : (t.del i).get j = if j = i then none else t.get j := by
  rw [get_toTri t]
  exact Tri.get_del t.toTri i j
theorem get_set_same (t : Trie α) (i : Nat) (x : α) : (t.set i x).get i = some x := by simp [get_set]
theorem get_set_ne (t : Trie α) {i j : Nat} (x : α) (h : j ≠ i) : (t.set i x).get j = t.get j := by simp [get_set, h]

/-- A list laid from a place on. -/
def fill (t : Trie α) (i : Nat) (xs : List α) : Trie α :=
  Trie.rec (motive := fun _ => Trie α) (fun t => .tri (t.fill i xs)) (fun ys => Option.rec (motive := fun _ => Trie α) (.tri ((Tri.ofList ys).fill i xs)) (fun zs => .list zs) (overL ys i xs)) t
def ofList (xs : List α) : Trie α := .list xs

theorem get_fill (xs : List α) (t : Trie α) (i j : Nat) : (fill t i xs).get j = if i ≤ j ∧ j < i + xs.length then xs[j - i]? else t.get j := by
  cases t with
  | tri t => exact Tri.get_fill xs t i j
  | list ys =>
    show get (Option.rec (motive := fun _ => Trie α) (.tri ((Tri.ofList ys).fill i xs)) (fun zs => .list zs) (overL ys i xs)) j = if i ≤ j ∧ j < i + xs.length then xs[j - i]? else nth ys j
    rw [nth_eq]
    cases hs : overL ys i xs with
    | none => show ((Tri.ofList ys).fill i xs).get j = _; rw [Tri.get_fill, Tri.get_ofList]
    | some zs => show nth zs j = _; rw [nth_eq, overL_eq ys i xs zs hs]
theorem get_ofList (xs : List α) (j : Nat) : (ofList xs).get j = xs[j]? := nth_eq xs j

/-- n cells from a place on; none if one is missing. -/
def take (t : Trie α) (i n : Nat) : Option (List α) := Trie.rec (motive := fun _ => Option (List α)) (fun t => t.take i n) (fun xs => takeL xs i n) t
theorem take_zero (t : Trie α) (i : Nat) : take t i 0 = some [] := by
  cases t with
  | tri t => rfl
  | list xs => exact takeL_none xs i
theorem take_succ (t : Trie α) (i n : Nat) : take t i (n + 1) = match t.get i with
    | none => none
    | some x => match take t (i + 1) n with
      | none => none
      | some xs => some (x :: xs) := by
  cases t with
  | tri t => exact Tri.take_succ t i n
  | list xs =>
    show takeL xs i (n + 1) = match nth xs i with
    | none => none
    | some x => match takeL xs (i + 1) n with
      | none => none
      | some xs => some (x :: xs)
    rw [nth_eq, takeL_step]

theorem take_some {t : Trie α} : ∀ {n i : Nat} {xs : List α}, take t i n = some xs → xs.length = n ∧ ∀ j, j < n → t.get (i + j) = xs[j]? := by
  intro n
  induction n with
  | zero => intro i xs h; simp [take_zero] at h; subst h; exact ⟨rfl, fun j hj => by omega⟩
  | succ n ih =>
    intro i xs h
    simp only [take_succ] at h
    split at h
    · simp at h
    · rename_i x hx
      split at h
      · simp at h
      · rename_i ys hys
        simp at h; subst h
        obtain ⟨h1, h2⟩ := ih hys
        refine ⟨by simp [h1], fun j hj => ?_⟩
        cases j with
        | zero => simpa using hx
        | succ j => rw [show i + (j + 1) = i + 1 + j from by omega]; simpa using h2 j (by omega)
end
end Trie
end Go.Abs
end
section
/-! What an abstract value (a value whose block numbers, and whose unknown capacities, are the evaluator's own) has to do with a value of the model. -/
namespace Go.Abs
noncomputable section

/-- Where an abstract block lies: its block, the cell where it begins; how many cells the evaluator knows (n) and how many there are (stop); the cells of an element (sz), and whether what lies behind the known cells is free to be appended to (opn). -/
structure Loc where
  block : Nat
  base : Nat
  n : Nat
  stop : Nat
  sz : Nat
  opn : Bool

abbrev Ren := Nat → Option Loc

/-- The capacity of a slice that begins at cell o: as it is said; but that of an open block reaches to the block's end. -/
def CapOK (l : Loc) (o cap cap' : Nat) : Prop :=
  if l.opn = true ∧ o + cap * l.sz = l.n then o + cap' * l.sz = l.stop else cap' = cap

inductive FnR (ρ : Ren) : Fn → Fn → Prop
  | func (f : FuncId) : FnR ρ (.func f) (.func f)
  | method (n : String) : FnR ρ (.method n) (.method n)
  | methodOf (t : TypeId) (n : String) : FnR ρ (.methodOf t n) (.methodOf t n)
  | via (t : TypeId) (p : Array FieldStep) (f : FuncId) (b : Bool) : FnR ρ (.via t p f b) (.via t p f b)
  | yield {l : Nat} {k : Loc} (h : ρ l = some k) : FnR ρ (.yield l) (.yield k.block)

/-- The value of one cell. -/
def single : Value → Bool
  | .agg _ | .tuple _ => false
  | _ => true

/-- '.complex .f32 a b' is the evaluator's word for an int from a to b; '.complex .f64 a b' for such a uint32. -/
def rngKind : FloatKind → IntKind
  | .f32 => .i64
  | .f64 => .u32

/-- '.chan (some _)' is the evaluator's word for a value of one cell of which it knows nothing; '.slice (some ⟨b, o, some _⟩) 0 0' for the empty slice behind all that it knows of an open block. -/
inductive VR (ρ : Ren) : Value → Value → Prop
  | top (n : Nat) {v' : Value} (h : single v' = true) : VR ρ (.chan (some n)) v'
  | bool (b : Bool) : VR ρ (.bool b) (.bool b)
  | int (k : IntKind) (n : Int) : VR ρ (.int k n) (.int k n)
  | float (k : FloatKind) (b : Nat) : VR ρ (.float k b) (.float k b)
  | rng (k : FloatKind) {a b : Nat} {n : Int} (h : a ≤ n ∧ n ≤ b) : VR ρ (.complex k a b) (.int (rngKind k) n)
  | string (s : ByteArray) : VR ρ (.string s) (.string s)
  | ptrNil : VR ρ (.pointer none) (.pointer none)
  | ptr {b o : Nat} {l : Loc} (h : ρ b = some l) : VR ρ (.pointer (some ⟨b, o, none⟩)) (.pointer (some ⟨l.block, l.base + o, none⟩))
  | sliceNil (n m : Nat) : VR ρ (.slice none n m) (.slice none n m)
  | slice {b o len cap cap' : Nat} {l : Loc} (h : ρ b = some l) (hc : CapOK l o cap cap') :
      VR ρ (.slice (some ⟨b, o, none⟩) len cap) (.slice (some ⟨l.block, l.base + o, none⟩) len cap')
  | sliceEnd {b o k off' cap' : Nat} {l : Loc} (h : ρ b = some l) (ho : l.opn = true) (hn : l.n = o) (hc : o + cap' * l.sz = l.stop) (ha : 0 < cap' → off' = l.base + o) :
      VR ρ (.slice (some ⟨b, o, some k⟩) 0 0) (.slice (some ⟨l.block, off', none⟩) 0 cap')
  | mapNil : VR ρ (.map none) (.map none)
  | map {r : Nat} {l : Loc} (h : ρ r = some l) : VR ρ (.map (some r)) (.map (some l.block))
  | chanNil : VR ρ (.chan none) (.chan none)
  | func {fn fn' : Fn} {a a' c c' : Array Value} (h : FnR ρ fn fn') (ha : a.size = a'.size) (hA : ∀ i (h1 : i < a.size) (h2 : i < a'.size), VR ρ a[i] a'[i])
      (hc : c.size = c'.size) (hC : ∀ i (h1 : i < c.size) (h2 : i < c'.size), VR ρ c[i] c'[i]) : VR ρ (.func fn a c) (.func fn' a' c')
  | nilFunc : VR ρ .nilFunc .nilFunc
  | iface (t : TypeId) {v v' : Value} (h : VR ρ v v') : VR ρ (.iface t v) (.iface t v')
  | nilIface : VR ρ .nilIface .nilIface
  | agg {a a' : Array Value} (ha : a.size = a'.size) (hA : ∀ i (h1 : i < a.size) (h2 : i < a'.size), VR ρ a[i] a'[i]) : VR ρ (.agg a) (.agg a')
  | tuple {a a' : Array Value} (ha : a.size = a'.size) (hA : ∀ i (h1 : i < a.size) (h2 : i < a'.size), VR ρ a[i] a'[i]) : VR ρ (.tuple a) (.tuple a')

def Ren.le (ρ ρ' : Ren) : Prop := ∀ b l, ρ b = some l → ρ' b = some l
theorem Ren.le_refl (ρ : Ren) : ρ.le ρ := fun _ _ h => h
theorem Ren.le_trans {a b c : Ren} (h : a.le b) (h' : b.le c) : a.le c := fun i l e => h' i l (h i l e)

theorem FnR.mono {ρ ρ' : Ren} (hρ : ρ.le ρ') {f f' : Fn} (h : FnR ρ f f') : FnR ρ' f f' := by
  cases h with
  | yield h => exact .yield (hρ _ _ h)
  | func => exact .func _
  | method => exact .method _
  | methodOf => exact .methodOf _ _
  | via => exact .via _ _ _ _

theorem VR.mono {ρ ρ' : Ren} (hρ : ρ.le ρ') {v v' : Value} (h : VR ρ v v') : VR ρ' v v' := by
  induction h with
  | top n h => exact .top n h
  | bool => exact .bool _
  | int => exact .int _ _
  | float => exact .float _ _
  | rng k h => exact .rng k h
  | string => exact .string _
  | ptrNil => exact .ptrNil
  | ptr h => exact .ptr (hρ _ _ h)
  | sliceNil => exact .sliceNil _ _
  | slice h hc => exact .slice (hρ _ _ h) hc
  | sliceEnd h ho hn hc ha => exact .sliceEnd (hρ _ _ h) ho hn hc ha
  | mapNil => exact .mapNil
  | map h => exact .map (hρ _ _ h)
  | chanNil => exact .chanNil
  | func h ha _ hc _ ihA ihC => exact .func (h.mono hρ) ha ihA hc ihC
  | nilFunc => exact .nilFunc
  | iface t _ ih => exact .iface t ih
  | nilIface => exact .nilIface
  | agg ha _ ih => exact .agg ha ih
  | tuple ha _ ih => exact .tuple ha ih

/-- Lists of values. -/
inductive LR (ρ : Ren) : List Value → List Value → Prop
  | nil : LR ρ [] []
  | cons {v v' : Value} {l l' : List Value} (h : VR ρ v v') (t : LR ρ l l') : LR ρ (v :: l) (v' :: l')

def AR (ρ : Ren) (a a' : Array Value) : Prop := LR ρ a.toList a'.toList

section
variable {ρ ρ' : Ren}

theorem LR.mono (hρ : ρ.le ρ') {l l' : List Value} (h : LR ρ l l') : LR ρ' l l' := by
  induction h with
  | nil => exact .nil
  | cons h _ ih => exact .cons (h.mono hρ) ih
theorem LR.length {l l' : List Value} (h : LR ρ l l') : l.length = l'.length := by
  induction h with
  | nil => rfl
  | cons _ _ ih => simp [ih]
theorem LR.get {l l' : List Value} (h : LR ρ l l') : ∀ {i : Nat} {v : Value}, l[i]? = some v → ∃ v', l'[i]? = some v' ∧ VR ρ v v' := by
  induction h with
  | nil => intro i v h; simp at h
  | cons h _ ih =>
    intro i v hv
    cases i with
    | zero => simp at hv; subst hv; exact ⟨_, by simp, h⟩
    | succ i => simp at hv; obtain ⟨v', h1, h2⟩ := ih hv; exact ⟨v', by simpa using h1, h2⟩
theorem LR.get_none {l l' : List Value} (h : LR ρ l l') {i : Nat} (hi : l[i]? = none) : l'[i]? = none := by
  have := h.length
  simp at hi ⊢; omega
theorem LR.of_get : ∀ {l l' : List Value}, l.length = l'.length → (∀ i (h1 : i < l.length) (h2 : i < l'.length), VR ρ l[i] l'[i]) → LR ρ l l' := by
  intro l
  induction l with
  | nil => intro l' h _; cases l' with | nil => exact .nil | cons => simp at h
  | cons v l ih =>
    intro l' h hv
    cases l' with
    | nil => simp at h
    | cons v' l' =>
      refine .cons (hv 0 (by simp) (by simp)) (ih (by simpa using h) fun i h1 h2 => ?_)
      exact hv (i + 1) (by simpa using h1) (by simpa using h2)
theorem LR.append {a a' b b' : List Value} (h : LR ρ a a') (h' : LR ρ b b') : LR ρ (a ++ b) (a' ++ b') := by
  induction h with
  | nil => exact h'
  | cons h _ ih => exact .cons h ih
theorem LR.take {a a' : List Value} (h : LR ρ a a') : ∀ n, LR ρ (a.take n) (a'.take n) := by
  induction h with
  | nil => intro n; simp; exact .nil
  | cons h _ ih => intro n; cases n with | zero => exact .nil | succ n => simpa using LR.cons h (ih n)
theorem LR.drop {a a' : List Value} (h : LR ρ a a') : ∀ n, LR ρ (a.drop n) (a'.drop n) := by
  induction h with
  | nil => intro n; simp; exact .nil
  | cons h t ih => intro n; cases n with | zero => exact .cons h t | succ n => simpa using ih n
theorem LR.set {a a' : List Value} (h : LR ρ a a') {v v' : Value} (hv : VR ρ v v') : ∀ i, LR ρ (a.set i v) (a'.set i v') := by
  induction h with
  | nil => intro i; simp; exact .nil
  | cons h t ih => intro i; cases i with | zero => exact .cons hv t | succ i => simpa using LR.cons h (ih i)
theorem LR.replicate {v v' : Value} (h : VR ρ v v') : ∀ n, LR ρ (List.replicate n v) (List.replicate n v') := by
  intro n
  induction n with
  | zero => exact .nil
  | succ n ih => simpa [List.replicate_succ] using LR.cons h ih
theorem LR.one {v v' : Value} (h : VR ρ v v') : LR ρ [v] [v'] := .cons h .nil

theorem AR.mono (hρ : ρ.le ρ') {a a' : Array Value} (h : AR ρ a a') : AR ρ' a a' := LR.mono hρ h
theorem AR.size {a a' : Array Value} (h : AR ρ a a') : a.size = a'.size := by simpa using LR.length h
theorem AR.of_get {a a' : Array Value} (ha : a.size = a'.size) (hA : ∀ i (h1 : i < a.size) (h2 : i < a'.size), VR ρ a[i] a'[i]) : AR ρ a a' :=
  LR.of_get (by simpa using ha) fun i h1 h2 => by simpa using hA i (by simpa using h1) (by simpa using h2)
theorem AR.get {a a' : Array Value} (h : AR ρ a a') {i : Nat} {v : Value} (hv : a[i]? = some v) : ∃ v', a'[i]? = some v' ∧ VR ρ v v' := by
  have := LR.get h (i := i) (v := v) (by simpa using hv)
  simpa using this
theorem AR.get_none {a a' : Array Value} (h : AR ρ a a') {i : Nat} (hv : a[i]? = none) : a'[i]? = none := by
  have := LR.get_none h (i := i) (by simpa using hv)
  simpa using this
theorem AR.elem {a a' : Array Value} (h : AR ρ a a') (i : Nat) (h1 : i < a.size) (h2 : i < a'.size) : VR ρ a[i] a'[i] := by
  obtain ⟨v', e, hv⟩ := h.get (i := i) (v := a[i]) (by simp [h1])
  have : a'[i] = v' := by simpa [h2] using e
  rw [this]; exact hv
theorem AR.append {a a' b b' : Array Value} (h : AR ρ a a') (h' : AR ρ b b') : AR ρ (a ++ b) (a' ++ b') := by
  simpa [AR] using LR.append h h'
theorem AR.empty : AR ρ #[] #[] := .nil
theorem AR.one {v v' : Value} (h : VR ρ v v') : AR ρ #[v] #[v'] := LR.one h
theorem AR.push {a a' : Array Value} {v v' : Value} (h : AR ρ a a') (hv : VR ρ v v') : AR ρ (a.push v) (a'.push v') := by
  simpa [AR] using LR.append h (LR.one hv)
theorem AR.extract {a a' : Array Value} (h : AR ρ a a') (i j : Nat) : AR ρ (a.extract i j) (a'.extract i j) := by
  have := LR.take (LR.drop h i) (j - i)
  simpa [AR, List.extract_eq_take_drop] using this
theorem AR.set {a a' : Array Value} (h : AR ρ a a') {v v' : Value} (hv : VR ρ v v') (i : Nat) : AR ρ (a.setIfInBounds i v) (a'.setIfInBounds i v') := by
  have := LR.set h hv i
  simpa [AR] using this

theorem VR.of_agg {a a' : Array Value} (h : AR ρ a a') : VR ρ (.agg a) (.agg a') := .agg h.size h.elem
theorem VR.of_tuple {a a' : Array Value} (h : AR ρ a a') : VR ρ (.tuple a) (.tuple a') := .tuple h.size h.elem
theorem VR.agg_inv {a : Array Value} {v' : Value} (h : VR ρ (.agg a) v') : ∃ a', v' = .agg a' ∧ AR ρ a a' := by
  cases h with
  | agg ha hA => exact ⟨_, rfl, .of_get ha hA⟩
theorem VR.tuple_inv {a : Array Value} {v' : Value} (h : VR ρ (.tuple a) v') : ∃ a', v' = .tuple a' ∧ AR ρ a a' := by
  cases h with
  | tuple ha hA => exact ⟨_, rfl, .of_get ha hA⟩
theorem VR.func_inv {fn : Fn} {a c : Array Value} {v' : Value} (h : VR ρ (.func fn a c) v') : ∃ fn' a' c', v' = .func fn' a' c' ∧ FnR ρ fn fn' ∧ AR ρ a a' ∧ AR ρ c c' := by
  cases h with
  | func h ha hA hc hC => exact ⟨_, _, _, rfl, h, .of_get ha hA, .of_get hc hC⟩
theorem VR.of_func {fn fn' : Fn} {a a' c c' : Array Value} (h : FnR ρ fn fn') (ha : AR ρ a a') (hc : AR ρ c c') : VR ρ (.func fn a c) (.func fn' a' c') :=
  .func h ha.size ha.elem hc.size hc.elem
theorem VR.undef : VR ρ undef undef := VR.of_tuple AR.empty

theorem VR.cells {v v' : Value} (h : VR ρ v v') : AR ρ v.cells v'.cells := by
  cases h with
  | top n h =>
    have e : v'.cells = #[v'] := by cases v' <;> first | rfl | simp [single] at h
    rw [e]; exact AR.one (.top n h)
  | agg ha hA => exact .of_get ha hA
  | bool => exact AR.one (.bool _)
  | int => exact AR.one (.int _ _)
  | float => exact AR.one (.float _ _)
  | rng k h => exact AR.one (.rng k h)
  | string => exact AR.one (.string _)
  | ptrNil => exact AR.one .ptrNil
  | ptr h => exact AR.one (.ptr h)
  | sliceNil => exact AR.one (.sliceNil _ _)
  | slice h hc => exact AR.one (.slice h hc)
  | sliceEnd h ho hn hc ha => exact AR.one (.sliceEnd h ho hn hc ha)
  | mapNil => exact AR.one .mapNil
  | map h => exact AR.one (.map h)
  | chanNil => exact AR.one .chanNil
  | func h ha hA hc hC => exact AR.one (.func h ha hA hc hC)
  | nilFunc => exact AR.one .nilFunc
  | iface t h => exact AR.one (.iface t h)
  | nilIface => exact AR.one .nilIface
  | tuple ha hA => exact AR.one (.tuple ha hA)

theorem VR.single {v v' : Value} (h : VR ρ v v') : Abs.single v' = Abs.single v := by
  cases h with
  | top n h => exact h
  | _ => rfl
end

/-- A value that names no block. -/
def ground : Nat → Value → Bool
  | _, .bool _ | _, .int .. | _, .float .. | _, .string _ | _, .pointer none | _, .slice none _ _ | _, .map none | _, .chan none | _, .nilFunc | _, .nilIface => true
  | n + 1, .iface _ v => ground n v
  | n + 1, .agg a => a.toList.all (ground n)
  | n + 1, .tuple a => a.toList.all (ground n)
  | n + 1, .func (.func _) a c => a.toList.all (ground n) && c.toList.all (ground n)
  | _, _ => false

theorem LR.of_ground {ρ : Ren} {n : Nat} (ih : ∀ v, ground n v = true → VR ρ v v) : ∀ l : List Value, l.all (ground n) = true → LR ρ l l
  | [], _ => .nil
  | v :: l, h => by
    simp only [List.all_cons, Bool.and_eq_true] at h
    exact .cons (ih v h.1) (LR.of_ground ih l h.2)

theorem ground_VR {ρ : Ren} : ∀ (n : Nat) (v : Value), ground n v = true → VR ρ v v := by
  intro n
  induction n with
  | zero =>
    intro v h
    cases v with
    | bool => exact .bool _
    | int => exact .int _ _
    | float => exact .float _ _
    | string => exact .string _
    | pointer a => cases a with | none => exact .ptrNil | some => simp [ground] at h
    | slice a => cases a with | none => exact .sliceNil _ _ | some => simp [ground] at h
    | map a => cases a with | none => exact .mapNil | some => simp [ground] at h
    | chan a => cases a with | none => exact .chanNil | some => simp [ground] at h
    | nilFunc => exact .nilFunc
    | nilIface => exact .nilIface
    | _ => simp [ground] at h
  | succ n ih =>
    intro v h
    cases v with
    | bool => exact .bool _
    | int => exact .int _ _
    | float => exact .float _ _
    | string => exact .string _
    | pointer a => cases a with | none => exact .ptrNil | some => simp [ground] at h
    | slice a => cases a with | none => exact .sliceNil _ _ | some => simp [ground] at h
    | map a => cases a with | none => exact .mapNil | some => simp [ground] at h
    | chan a => cases a with | none => exact .chanNil | some => simp [ground] at h
    | nilFunc => exact .nilFunc
    | nilIface => exact .nilIface
    | complex => simp [ground] at h
    | iface t v => simp only [ground] at h; exact .iface t (ih v h)
    | agg a => simp only [ground] at h; exact VR.of_agg (LR.of_ground ih _ h)
    | tuple a => simp only [ground] at h; exact VR.of_tuple (LR.of_ground ih _ h)
    | func fn a c =>
      cases fn <;> simp only [ground, Bool.and_eq_true, Bool.false_eq_true] at h
      exact VR.of_func (.func _) (LR.of_ground ih _ h.1) (LR.of_ground ih _ h.2)

theorem LR.ground_eq {ρ : Ren} {n : Nat} (ih : ∀ v v', ground n v = true → VR ρ v v' → v' = v) : ∀ l l' : List Value, l.all (ground n) = true → LR ρ l l' → l' = l
  | [], _, _, h => by cases h; rfl
  | v :: l, l', h, hr => by
    simp only [List.all_cons, Bool.and_eq_true] at h
    cases hr with
    | cons hv ht => rw [ih v _ h.1 hv, LR.ground_eq ih l _ h.2 ht]

theorem ground_eq {ρ : Ren} : ∀ (n : Nat) (v v' : Value), ground n v = true → VR ρ v v' → v' = v := by
  intro n
  induction n with
  | zero =>
    intro v v' h hr
    cases hr <;> simp [ground] at h <;> rfl
  | succ n ih =>
    intro v v' h hr
    cases v with
    | agg a =>
      obtain ⟨a', rfl, ha⟩ := hr.agg_inv
      simp only [ground] at h
      have := LR.ground_eq ih _ _ h ha
      have : a' = a := by cases a; cases a'; simp at this; simp [this]
      rw [this]
    | tuple a =>
      obtain ⟨a', rfl, ha⟩ := hr.tuple_inv
      simp only [ground] at h
      have := LR.ground_eq ih _ _ h ha
      have : a' = a := by cases a; cases a'; simp at this; simp [this]
      rw [this]
    | func fn a c =>
      obtain ⟨fn', a', c', rfl, hf, ha, hc⟩ := hr.func_inv
      cases fn <;> simp only [ground, Bool.and_eq_true, Bool.false_eq_true] at h
      cases hf
      have h1 := LR.ground_eq ih _ _ h.1 ha
      have h2 := LR.ground_eq ih _ _ h.2 hc
      have h1 : a' = a := by cases a; cases a'; simp at h1; simp [h1]
      have h2 : c' = c := by cases c; cases c'; simp at h2; simp [h2]
      rw [h1, h2]
    | iface t v =>
      cases hr with
      | iface t hv => simp only [ground] at h; rw [ih v _ h hv]
    | _ => cases hr <;> simp [ground] at h <;> rfl
end
end Go.Abs
end
section
/-! The abstract heap, and what it has to do with a world. -/
namespace Go.Abs
noncomputable section

/-! Slots, in groups of eight. -/
def pad (b : Nat) (v : Value) : List Value := Nat.rec (motive := fun _ => List Value) [v] (fun _ ih => undef :: ih) b
def getC (c : List Value) (b : Nat) : Value := List.rec (motive := fun _ => Nat → Value) (fun _ => undef) (fun x _ ih b => Nat.rec (motive := fun _ => Value) x (fun b' _ => ih b') b) c b
def setC (c : List Value) (b : Nat) (v : Value) : List Value :=
  List.rec (motive := fun _ => Nat → List Value) (fun b => pad b v) (fun x xs ih b => Nat.rec (motive := fun _ => List Value) (v :: xs) (fun b' _ => x :: ih b') b) c b
def padT (a : Nat) (c : List Value) : List (List Value) := Nat.rec (motive := fun _ => List (List Value)) [c] (fun _ ih => [] :: ih) a
def getT (t : List (List Value)) (a b : Nat) : Value := List.rec (motive := fun _ => Nat → Value) (fun _ => undef) (fun c _ ih a => Nat.rec (motive := fun _ => Value) (getC c b) (fun a' _ => ih a') a) t a
def setT (t : List (List Value)) (a b : Nat) (v : Value) : List (List Value) :=
  List.rec (motive := fun _ => Nat → List (List Value)) (fun a => padT a (pad b v)) (fun c cs ih a => Nat.rec (motive := fun _ => List (List Value)) (setC c b v :: cs) (fun a' _ => c :: ih a') a) t a

theorem getC_pad (v : Value) : ∀ (b j : Nat), getC (pad b v) j = if j = b then v else undef := by
  intro b
  induction b with
  | zero => intro j; cases j <;> simp <;> rfl
  | succ b ih =>
    intro j
    cases j with
    | zero => simp; rfl
    | succ j => show getC (pad b v) j = _; rw [ih]; simp
theorem getC_set (v : Value) : ∀ (c : List Value) (b j : Nat), getC (setC c b v) j = if j = b then v else getC c j := by
  intro c
  induction c with
  | nil => intro b j; exact getC_pad v b j
  | cons x xs ih =>
    intro b j
    cases b with
    | zero => cases j <;> simp <;> rfl
    | succ b =>
      cases j with
      | zero => simp; rfl
      | succ j => show getC (setC xs b v) j = _; rw [ih]; simp; rfl
theorem getT_padT (c : List Value) : ∀ (a i j : Nat), getT (padT a c) i j = if i = a then getC c j else undef := by
  intro a
  induction a with
  | zero => intro i j; cases i <;> simp <;> rfl
  | succ a ih =>
    intro i j
    cases i with
    | zero => simp; rfl
    | succ i => show getT (padT a c) i j = _; rw [ih]; simp
theorem getT_setT (b : Nat) (v : Value) : ∀ (t : List (List Value)) (a i j : Nat), getT (setT t a b v) i j = if i = a ∧ j = b then v else getT t i j := by
  intro t
  induction t with
  | nil =>
    intro a i j
    show getT (padT a (pad b v)) i j = _
    rw [getT_padT, getC_pad]
    by_cases h : i = a <;> by_cases h' : j = b <;> simp [h, h'] <;> rfl
  | cons c cs ih =>
    intro a i j
    cases a with
    | zero =>
      cases i with
      | zero => show getC (setC c b v) j = _; rw [getC_set]; simp; rfl
      | succ i => simp; rfl
    | succ a =>
      cases i with
      | zero => simp; rfl
      | succ i => show getT (setT cs a b v) i j = _; rw [ih]; simp; rfl

def getS (t : List (List Value)) (i : Nat) : Value := getT t (Nat.div i 8) (Nat.mod i 8)
def setS (t : List (List Value)) (i : Nat) (v : Value) : List (List Value) := setT t (Nat.div i 8) (Nat.mod i 8) v
theorem getS_setS (t : List (List Value)) (i : Nat) (v : Value) (j : Nat) : getS (setS t i v) j = if j = i then v else getS t j := by
  unfold getS setS
  rw [getT_setT]
  have : (Nat.div j 8 = Nat.div i 8 ∧ Nat.mod j 8 = Nat.mod i 8) ↔ j = i := by
    show (j / 8 = i / 8 ∧ j % 8 = i % 8) ↔ _
    omega
  simp only [this]
def fillS (t : List (List Value)) (i : Nat) (xs : List Value) : List (List Value) :=
  List.rec (motive := fun _ => List (List Value) → Nat → List (List Value)) (fun t _ => t) (fun x _ ih t i => ih (setS t i x) (Nat.succ i)) xs t i
theorem getS_fillS : ∀ (xs : List Value) (t : List (List Value)) (i j : Nat), getS (fillS t i xs) j = if i ≤ j ∧ j < i + xs.length then (xs[j - i]?).getD undef else getS t j := by
  intro xs
  induction xs with
  | nil => intro t i j; rw [if_neg (by simp only [List.length_nil]; omega)]; rfl
  | cons x xs ih =>
    intro t i j
    show getS (fillS (setS t i x) (Nat.succ i) xs) j = _
    rw [ih, getS_setS]
    simp only [List.length_cons]
    by_cases h : i.succ ≤ j ∧ j < i.succ + xs.length
    · rw [if_pos h, if_pos (by omega)]
      obtain ⟨d, hd⟩ : ∃ d, j - i = d + 1 := ⟨j - i - 1, by omega⟩
      have : j - i.succ = d := by omega
      rw [hd, this]; simp
    · rw [if_neg h]
      by_cases e : j = i
      · subst e; simp
      · rw [if_neg e, if_neg (by omega)]

structure ATmps where
  n : Nat
  t : List (List Value)

def ATmps.get (a : ATmps) (i : Nat) : Value := getS a.t i
def ATmps.set (a : ATmps) (i : Nat) (v : Value) : ATmps := ATmps.rec (motive := fun _ => ATmps) (fun n t => Bool.rec (motive := fun _ => ATmps) ⟨n, t⟩ ⟨n, setS t i v⟩ (Nat.ble (Nat.succ i) n)) a
def ATmps.put (a : ATmps) (dst : Option Tmp) (v : Value) : ATmps := Option.rec (motive := fun _ => ATmps) a (fun d => a.set d v) dst
/-- The slots of a call: its arguments first. -/
def ATmps.enter (args : List Value) (n : Nat) : ATmps := { n := max args.length n, t := fillS [] 0 args }
theorem ATmps.set_mk (n : Nat) (t : List (List Value)) (i : Nat) (v : Value) : ATmps.set ⟨n, t⟩ i v = match Nat.ble (i + 1) n with | true => ⟨n, setS t i v⟩ | false => ⟨n, t⟩ := by
  show Bool.rec (motive := fun _ => ATmps) ⟨n, t⟩ ⟨n, setS t i v⟩ (Nat.ble (i + 1) n) = _
  cases Nat.ble (i + 1) n <;> rfl
theorem ATmps.put_some (a : ATmps) (d : Tmp) (v : Value) : a.put (some d) v = a.set d v := rfl
theorem ATmps.put_none (a : ATmps) (v : Value) : a.put none v = a := rfl

structure ALoop where
  state : LoopState
  pending : Option Code
  fn : FuncId
  tmps : ATmps
  params : Array Tmp
  assign : Code
  body : Code
  defers : Nat

inductive AObj where
  | cells (n : Nat) (t : Trie Value) (elem : TypeId) (ro : Bool) (opn : Bool) (sz : Nat)
  | map (es : List MapEntry) (clock : Nat) (ro : Bool)
  | mapIter (m : Option Nat) (since : Nat) (seen : Array Nat) (stepped : Nat)
  | strIter (s : ByteArray) (pos : Nat)
  | loop (l : ALoop)
  | deferred (fresh : Bool)

def AObj.ro : AObj → Bool
  | .cells _ _ _ ro _ _ => ro
  | .map _ _ ro => ro
  | _ => false

structure AHeap where
  next : Nat
  bl : Trie AObj

def AHeap.get (h : AHeap) (i : Nat) : Option AObj := h.bl.get i
def AHeap.put (h : AHeap) (i : Nat) (o : AObj) : AHeap := match h with | ⟨n, t⟩ => ⟨n, t.set i o⟩
def AHeap.add (h : AHeap) (o : AObj) : AHeap := match h with | ⟨n, t⟩ => ⟨Nat.succ n, t.set n o⟩
def AHeap.del (h : AHeap) (i : Nat) : AHeap := match h with | ⟨n, t⟩ => ⟨n, t.del i⟩

theorem AHeap.add_next (h : AHeap) (o : AObj) : (h.add o).next = h.next + 1 := rfl
theorem AHeap.get_put (h : AHeap) (i : Nat) (o : AObj) (j : Nat) : (h.put i o).get j = if j = i then some o else h.get j := Trie.get_set _ _ _ _
theorem AHeap.get_add (h : AHeap) (o : AObj) (j : Nat) : (h.add o).get j = if j = h.next then some o else h.get j := Trie.get_set _ _ _ _
theorem AHeap.get_del (h : AHeap) (i : Nat) (j : Nat) : (h.del i).get j = if j = i then none else h.get j := Trie.get_del _ _ _

/-- Slots. -/
def TR (ρ : Ren) (a : ATmps) (c : Array Value) : Prop := a.n = c.size ∧ ∀ i, VR ρ (a.get i) (c.getD i undef)

def MER (ρ : Ren) (e e' : MapEntry) : Prop := VR ρ e.key e'.key ∧ VR ρ e.val e'.val ∧ e'.born = e.born

inductive ML (ρ : Ren) : List MapEntry → List MapEntry → Prop
  | nil : ML ρ [] []
  | cons {e e' : MapEntry} {l l' : List MapEntry} (h : MER ρ e e') (t : ML ρ l l') : ML ρ (e :: l) (e' :: l')

/-- What an abstract block is in the model's heap. -/
def OR (ρ : Ren) : AObj → Loc → Option Obj → Prop
  | .cells n t elem _ opn sz, l, o => l.n = n ∧ l.opn = opn ∧ l.sz = sz ∧ n ≤ l.stop ∧ ∃ arr : Array Value, o = some (.cells arr elem (0, 0)) ∧ l.base + l.stop ≤ arr.size ∧
      ∀ i v, i < n → t.get i = some v → ∃ v', arr[l.base + i]? = some v' ∧ VR ρ v v'
  | .map es clock _, _, o => ∃ es' : Array MapEntry, o = some (.map es' clock) ∧ ML ρ es es'.toList
  | .mapIter m since seen stepped, l, o => l.base = 0 ∧ ∃ m', o = some (.mapIter m' since seen stepped) ∧
      (match m with | none => m' = none | some r => ∃ k, ρ r = some k ∧ m' = some k.block)
  | .strIter s pos, l, o => l.base = 0 ∧ o = some (.stringIter s pos)
  | .loop a, _, o => ∃ (tm : Array Value) (k : Loc) (fn : FuncId), TR ρ a.tmps tm ∧ ρ a.defers = some k ∧
      o = some (.loop { state := a.state, pending := a.pending, fn, tmps := tm, params := a.params, assign := a.assign, body := a.body, defers := k.block })
  | .deferred fresh, _, o => o = some (.deferred (if fresh then some [] else none))

/-- What is tracked, as a function of the names. -/
abbrev Got := Nat → Option AObj
def AHeap.ok (h : AHeap) : Prop := ∀ i o, h.get i = some o → i < h.next

structure HR (ρ : Ren) (g : Got) (w : World) : Prop where
  obj : ∀ i o, g i = some o → ∃ l, ρ i = some l ∧ OR ρ o l w.heap[l.block]?
  inj : ∀ i j oi oj li lj, g i = some oi → g j = some oj → ρ i = some li → ρ j = some lj → i ≠ j → li.block ≠ lj.block

/-- The same of what is named alone: enough for what only looks. -/
structure HQ (ρ : Ren) (g : Got) (w : World) : Prop where
  obj : ∀ i o l, g i = some o → ρ i = some l → OR ρ o l w.heap[l.block]?
  inj : ∀ i j oi oj li lj, g i = some oi → g j = some oj → ρ i = some li → ρ j = some lj → i ≠ j → li.block ≠ lj.block

def Wr (ρ : Ren) (g : Got) (B : Nat) : Prop := ∃ i o l, g i = some o ∧ ρ i = some l ∧ l.block = B ∧ o.ro = false

/-- A block that is tracked. -/
def Tk (ρ : Ren) (g : Got) (B : Nat) : Prop := ∃ i o l, g i = some o ∧ ρ i = some l ∧ l.block = B

/-- What a piece of a run does to the renaming (n: the next name before, n': behind), and that it leaves alone whatever is not tracked, or tracked as not to be written. -/
structure Moves (ρ : Ren) (g : Got) (n : Nat) (w : World) (ρ' : Ren) (g' : Got) (n' : Nat) (w' : World) : Prop where
  le : ρ.le ρ'
  dom : ∀ i, ρ' i ≠ none → ρ i ≠ none ∨ (n ≤ i ∧ i < n')
  next : n ≤ n'
  size : w.heap.size ≤ w'.heap.size
  keep : ∀ B, B < w.heap.size → ¬ Wr ρ g B → w'.heap[B]? = w.heap[B]?
  wr : ∀ B, B < w.heap.size → Wr ρ' g' B → Wr ρ g B
  tr : ∀ B, B < w.heap.size → Tk ρ' g' B → Tk ρ g B
  os : w'.os = w.os
  out : w'.output = w.output

theorem Moves.refl (ρ : Ren) (g : Got) (n : Nat) (w : World) : Moves ρ g n w ρ g n w :=
  ⟨Ren.le_refl _, fun _ h => .inl h, Nat.le_refl _, Nat.le_refl _, fun _ _ _ => rfl, fun _ _ h => h, fun _ _ h => h, rfl, rfl⟩
theorem Moves.trans {ρ ρ₁ ρ₂ : Ren} {g g₁ g₂ : Got} {n n₁ n₂ : Nat} {w w₁ w₂ : World} (a : Moves ρ g n w ρ₁ g₁ n₁ w₁) (b : Moves ρ₁ g₁ n₁ w₁ ρ₂ g₂ n₂ w₂) : Moves ρ g n w ρ₂ g₂ n₂ w₂ where
  le := Ren.le_trans a.le b.le
  dom := fun i hi => by
    rcases b.dom i hi with h | ⟨h1, h2⟩
    · rcases a.dom i h with h | ⟨h1, h2⟩
      · exact .inl h
      · exact .inr ⟨h1, Nat.lt_of_lt_of_le h2 b.next⟩
    · exact .inr ⟨Nat.le_trans a.next h1, h2⟩
  next := Nat.le_trans a.next b.next
  size := Nat.le_trans a.size b.size
  keep := fun B hB hn => (b.keep B (Nat.lt_of_lt_of_le hB a.size) fun hw => hn (a.wr B hB hw)).trans (a.keep B hB hn)
  wr := fun B hB hw => a.wr B hB (b.wr B (Nat.lt_of_lt_of_le hB a.size) hw)
  tr := fun B hB hw => a.tr B hB (b.tr B (Nat.lt_of_lt_of_le hB a.size) hw)
  os := b.os.trans a.os
  out := b.out.trans a.out

theorem TR.mono {ρ ρ' : Ren} (hρ : ρ.le ρ') {a : ATmps} {c : Array Value} (h : TR ρ a c) : TR ρ' a c := ⟨h.1, fun i => (h.2 i).mono hρ⟩
theorem MER.mono {ρ ρ' : Ren} (hρ : ρ.le ρ') {a b : MapEntry} (h : MER ρ a b) : MER ρ' a b := ⟨h.1.mono hρ, h.2.1.mono hρ, h.2.2⟩
theorem ML.mono {ρ ρ' : Ren} (hρ : ρ.le ρ') {a b : List MapEntry} (h : ML ρ a b) : ML ρ' a b := by
  induction h with
  | nil => exact .nil
  | cons h _ ih => exact .cons (h.mono hρ) ih
theorem ML.length {ρ : Ren} {a b : List MapEntry} (h : ML ρ a b) : a.length = b.length := by
  induction h with
  | nil => rfl
  | cons _ _ ih => simp [ih]
theorem ML.append {ρ : Ren} {a a' b b' : List MapEntry} (h : ML ρ a a') (h' : ML ρ b b') : ML ρ (a ++ b) (a' ++ b') := by
  induction h with
  | nil => exact h'
  | cons h _ ih => exact .cons h ih

theorem OR.mono {ρ ρ' : Ren} (hρ : ρ.le ρ') {o : AObj} {l : Loc} {x : Option Obj} (h : OR ρ o l x) : OR ρ' o l x := by
  cases o with
  | cells n t elem ro opn sz =>
    obtain ⟨h1, h2, h3, h4, arr, h5, h6, h7⟩ := h
    exact ⟨h1, h2, h3, h4, arr, h5, h6, fun i v hi hv => let ⟨v', e, r⟩ := h7 i v hi hv; ⟨v', e, r.mono hρ⟩⟩
  | map es clock ro => obtain ⟨es', h1, h2⟩ := h; exact ⟨es', h1, h2.mono hρ⟩
  | mapIter m since seen stepped =>
    obtain ⟨h0, m', h1, h2⟩ := h
    refine ⟨h0, m', h1, ?_⟩
    cases m with
    | none => exact h2
    | some r => obtain ⟨k, h3, h4⟩ := h2; exact ⟨k, hρ _ _ h3, h4⟩
  | strIter s pos => exact h
  | loop a => obtain ⟨tm, k, fn, h1, h2, h3⟩ := h; exact ⟨tm, k, fn, h1.mono hρ, hρ _ _ h2, h3⟩
  | deferred f => exact h

theorem OR.isSome {ρ : Ren} {o : AObj} {l : Loc} {x : Option Obj} (h : OR ρ o l x) : ∃ y, x = some y := by
  cases o with
  | cells n t elem ro opn sz => obtain ⟨_, _, _, _, arr, h5, _⟩ := h; exact ⟨_, h5⟩
  | map es clock ro => obtain ⟨es', h1, _⟩ := h; exact ⟨_, h1⟩
  | mapIter m since seen stepped => obtain ⟨_, m', h1, _⟩ := h; exact ⟨_, h1⟩
  | strIter s pos => exact ⟨_, h.2⟩
  | loop a => obtain ⟨tm, k, fn, _, _, h3⟩ := h; exact ⟨_, h3⟩
  | deferred f => exact ⟨_, h⟩

theorem HR.block_lt {ρ : Ren} {g : Got} {w : World} (H : HR ρ g w) {i : Nat} {o : AObj} {l : Loc} (hi : g i = some o) (hl : ρ i = some l) : l.block < w.heap.size := by
  obtain ⟨l', hl', hor⟩ := H.obj i o hi
  rw [hl] at hl'; cases hl'
  obtain ⟨y, hy⟩ := hor.isSome
  exact (Array.getElem?_eq_some_iff.1 hy).1
theorem HR.get {ρ : Ren} {g : Got} {w : World} (H : HR ρ g w) {i : Nat} {o : AObj} {l : Loc} (hi : g i = some o) (hl : ρ i = some l) : OR ρ o l w.heap[l.block]? := by
  obtain ⟨l', hl', hor⟩ := H.obj i o hi
  rw [hl] at hl'; cases hl'
  exact hor
theorem HR.quiet {ρ : Ren} {g : Got} {w : World} (H : HR ρ g w) : HQ ρ g w := ⟨fun _ _ _ hi hl => H.get hi hl, H.inj⟩

/-- One name more. -/
def Ren.upd (ρ : Ren) (i : Nat) (l : Loc) : Ren := fun j => if j = i then some l else ρ j
theorem Ren.le_upd {ρ : Ren} {i : Nat} {l : Loc} (h : ρ i = none) : ρ.le (ρ.upd i l) := by
  intro j k hj
  unfold Ren.upd
  by_cases e : j = i
  · subst e; rw [h] at hj; cases hj
  · simp [e, hj]
theorem Ren.upd_same (ρ : Ren) (i : Nat) (l : Loc) : ρ.upd i l i = some l := by simp [Ren.upd]
def Got.upd (g : Got) (i : Nat) (o : AObj) : Got := fun j => if j = i then some o else g j
theorem AHeap.get_add' (h : AHeap) (o : AObj) : (h.add o).get = Got.upd h.get h.next o := funext fun j => AHeap.get_add h o j
theorem AHeap.get_put' (h : AHeap) (i : Nat) (o : AObj) : (h.put i o).get = Got.upd h.get i o := funext fun j => AHeap.get_put h i o j
theorem AHeap.ok.fresh {h : AHeap} (H : h.ok) : h.get h.next = none := by
  cases e : h.get h.next with
  | none => rfl
  | some o => exact absurd (H _ _ e) (Nat.lt_irrefl _)
theorem AHeap.ok.add {h : AHeap} (H : h.ok) (o : AObj) : (h.add o).ok := by
  intro i x hi
  rw [AHeap.get_add] at hi
  simp only [AHeap.add]
  by_cases e : i = h.next
  · omega
  · rw [if_neg e] at hi; have := H i x hi; omega
theorem AHeap.ok.put {h : AHeap} (H : h.ok) {i : Nat} {x : AObj} (hx : h.get i = some x) (o : AObj) : (h.put i o).ok := by
  intro j y hj
  rw [AHeap.get_put] at hj
  simp only [AHeap.put]
  by_cases e : j = i
  · rw [e]; exact H i x hx
  · rw [if_neg e] at hj; exact H j y hj
theorem AHeap.ok.del {h : AHeap} (H : h.ok) (i : Nat) : (h.del i).ok := by
  intro j y hj
  rw [AHeap.get_del] at hj
  by_cases e : j = i
  · simp [e] at hj
  · rw [if_neg e] at hj; exact H j y hj

/-- A NEW BLOCK. -/
theorem HR.add {ρ : Ren} {g : Got} {w : World} (H : HR ρ g w) {i : Nat} (hf : ρ i = none) (o : AObj) (x : Obj) (l : Loc) (hb : l.block = w.heap.size)
    (hor : OR (ρ.upd i l) o l (some x)) :
    HR (ρ.upd i l) (g.upd i o) { w with heap := w.heap.push x } ∧ Moves ρ g i w (ρ.upd i l) (g.upd i o) (i + 1) { w with heap := w.heap.push x } := by
  have hle : ρ.le (ρ.upd i l) := Ren.le_upd hf
  constructor
  · refine ⟨fun j o' hj => ?_, fun a b oa ob la lb ha hb' hla hlb hab => ?_⟩
    · unfold Got.upd at hj
      by_cases e : j = i
      · rw [if_pos e] at hj; cases hj
        exact ⟨l, by rw [e, Ren.upd_same], by simpa [hb] using hor⟩
      · rw [if_neg e] at hj
        obtain ⟨k, hk, hok⟩ := H.obj j o' hj
        refine ⟨k, hle _ _ hk, ?_⟩
        have hlt := H.block_lt hj hk
        have : (w.heap.push x)[k.block]? = w.heap[k.block]? := by simp [Array.getElem?_push, Nat.ne_of_lt hlt]
        rw [this]
        exact hok.mono hle
    · unfold Got.upd at ha hb'
      unfold Ren.upd at hla hlb
      by_cases e : a = i
      · have e' : b ≠ i := fun e' => hab (e.trans e'.symm)
        rw [if_pos e] at hla; cases hla
        rw [if_neg e'] at hb' hlb
        have := H.block_lt hb' hlb
        omega
      · rw [if_neg e] at ha hla
        by_cases e' : b = i
        · rw [if_pos e'] at hlb; cases hlb
          have := H.block_lt ha hla
          omega
        · rw [if_neg e'] at hb' hlb
          exact H.inj a b oa ob la lb ha hb' hla hlb hab
  · refine ⟨hle, fun j hj => ?_, by omega, by simp, fun B hB _ => ?_, fun B hB hw => ?_, fun B hB hw => ?_, rfl, rfl⟩
    · unfold Ren.upd at hj
      by_cases e : j = i
      · right; omega
      · rw [if_neg e] at hj; exact .inl hj
    · simp [Array.getElem?_push, Nat.ne_of_lt hB]
    · obtain ⟨j, o', k, hj, hk, hkb, hro⟩ := hw
      unfold Got.upd at hj
      unfold Ren.upd at hk
      by_cases e : j = i
      · rw [if_pos e] at hk; cases hk; omega
      · rw [if_neg e] at hj hk
        exact ⟨j, o', k, hj, hk, hkb, hro⟩
    · obtain ⟨j, o', k, hj, hk, hkb⟩ := hw
      unfold Got.upd at hj
      unfold Ren.upd at hk
      by_cases e : j = i
      · rw [if_pos e] at hk; cases hk; omega
      · rw [if_neg e] at hj hk
        exact ⟨j, o', k, hj, hk, hkb⟩

/-- A TURN OF A BLOCK THAT IS TRACKED AND MAY BE WRITTEN. -/
theorem HR.turn {ρ : Ren} {g : Got} {w : World} (H : HR ρ g w) {i : Nat} {o : AObj} (o' : AObj) {l : Loc} (hi : g i = some o) (hl : ρ i = some l) (hro : o.ro = false)
    {w' : World} (hs : w'.heap.size = w.heap.size) (hoth : ∀ B, B ≠ l.block → w'.heap[B]? = w.heap[B]?) (hor : OR ρ o' l w'.heap[l.block]?) (n : Nat) (he : w'.os = w.os ∧ w'.output = w.output := by exact ⟨rfl, rfl⟩) :
    HR ρ (g.upd i o') w' ∧ Moves ρ g n w ρ (g.upd i o') n w' := by
  constructor
  · refine ⟨fun j oj hj => ?_, fun a b oa ob la lb ha hb hla hlb hab => ?_⟩
    · unfold Got.upd at hj
      by_cases e : j = i
      · rw [if_pos e] at hj; cases hj; subst e; exact ⟨l, hl, hor⟩
      · rw [if_neg e] at hj
        obtain ⟨k, hk, hok⟩ := H.obj j oj hj
        refine ⟨k, hk, ?_⟩
        rw [hoth k.block (H.inj j i _ _ _ _ hj hi hk hl e)]
        exact hok
    · unfold Got.upd at ha hb
      have ha' : ∃ oa, g a = some oa := by
        by_cases e : a = i
        · exact ⟨o, e ▸ hi⟩
        · rw [if_neg e] at ha; exact ⟨_, ha⟩
      have hb' : ∃ ob, g b = some ob := by
        by_cases e : b = i
        · exact ⟨o, e ▸ hi⟩
        · rw [if_neg e] at hb; exact ⟨_, hb⟩
      obtain ⟨_, ha'⟩ := ha'; obtain ⟨_, hb'⟩ := hb'
      exact H.inj a b _ _ la lb ha' hb' hla hlb hab
  · refine ⟨Ren.le_refl _, fun _ h => .inl h, Nat.le_refl _, by omega, fun B _ hn => hoth B fun e => hn ⟨i, o, l, hi, hl, e.symm, hro⟩, fun B hB hw => ?_, fun B hB hw => ?_, he.1, he.2⟩
    · obtain ⟨j, oj, k, hj, hk, hkb, hr⟩ := hw
      unfold Got.upd at hj
      by_cases e : j = i
      · subst e; exact ⟨j, o, k, hi, hk, hkb, hro⟩
      · rw [if_neg e] at hj; exact ⟨j, oj, k, hj, hk, hkb, hr⟩
    obtain ⟨j, oj, k, hj, hk, hkb⟩ := hw
    unfold Got.upd at hj
    by_cases e : j = i
    · subst e; exact ⟨j, o, k, hi, hk, hkb⟩
    · rw [if_neg e] at hj; exact ⟨j, oj, k, hj, hk, hkb⟩

/-- FORGETTING. -/
theorem HR.sub {ρ : Ren} {g g' : Got} {w : World} (H : HR ρ g w) (hs : ∀ i o, g' i = some o → g i = some o) : HR ρ g' w :=
  ⟨fun i o hi => H.obj i o (hs i o hi), fun i j oi oj li lj hi hj => H.inj i j oi oj li lj (hs i oi hi) (hs j oj hj)⟩
theorem Moves.sub {ρ : Ren} {g g' : Got} {w : World} (hs : ∀ i o, g' i = some o → g i = some o) (n : Nat) : Moves ρ g n w ρ g' n w :=
  ⟨Ren.le_refl _, fun _ h => .inl h, Nat.le_refl _, Nat.le_refl _, fun _ _ _ => rfl, fun _ _ ⟨i, o, l, hi, r⟩ => ⟨i, o, l, hs i o hi, r⟩, fun _ _ ⟨i, o, l, hi, r⟩ => ⟨i, o, l, hs i o hi, r⟩, rfl, rfl⟩

/-- A renaming that says more. -/
theorem HR.mono {ρ ρ' : Ren} (hρ : ρ.le ρ') {g : Got} {w : World} (H : HR ρ g w) : HR ρ' g w := by
  refine ⟨fun i o hi => ?_, fun i j oi oj li lj hi hj hli hlj hij => ?_⟩
  · obtain ⟨l, hl, hor⟩ := H.obj i o hi
    exact ⟨l, hρ _ _ hl, hor.mono hρ⟩
  · obtain ⟨l, hl, _⟩ := H.obj i oi hi
    obtain ⟨k, hk, _⟩ := H.obj j oj hj
    rw [hρ _ _ hl] at hli; cases hli
    rw [hρ _ _ hk] at hlj; cases hlj
    exact H.inj i j oi oj _ _ hi hj hl hk hij
theorem HR.heap_eq {ρ : Ren} {g : Got} {w w' : World} (H : HR ρ g w) (h : w'.heap = w.heap) : HR ρ g w' :=
  ⟨fun i o hi => by rw [h]; exact H.obj i o hi, H.inj⟩
end
end Go.Abs
end
