/- Proved here: quicker forms of the evaluator answer as the plain one; tables of calls. By an AI agent. -/
import Derived.Test.YtmheiipmancjpaaGreatDoorAbI
set_option linter.unusedVariables false
set_option linter.unusedSimpArgs false
section
set_option linter.unusedVariables false
/-! Array work of the evaluator, on lists and by bare recursors. -/
namespace Go.Abs
noncomputable section

/-- Places written from a place on; what would lie beyond is dropped. -/
def over (cs : List Value) : Nat → List Value → List Value :=
  List.rec (motive := fun _ => Nat → List Value → List Value) (fun _ _ => [])
    (fun c cs ih n vs => List.rec (motive := fun _ => List Value) (c :: cs) (fun v vs' _ => Nat.rec (motive := fun _ => List Value) (v :: ih 0 vs') (fun n' _ => c :: ih n' vs) n) vs) cs
theorem over_nil (n : Nat) (vs : List Value) : over [] n vs = [] := rfl
theorem over_none (cs : List Value) (n : Nat) : over cs n [] = cs := by cases cs <;> rfl
theorem over_zero (c v : Value) (cs vs : List Value) : over (c :: cs) 0 (v :: vs) = v :: over cs 0 vs := rfl
theorem over_succ (c v : Value) (cs vs : List Value) (n : Nat) : over (c :: cs) (n + 1) (v :: vs) = c :: over cs n (v :: vs) := rfl

theorem over_set : ∀ (cs : List Value) (n : Nat) (v : Value) (vs : List Value), over cs n (v :: vs) = over (cs.set n v) (n + 1) vs := by
  intro cs
  induction cs with
  | nil => intro n v vs; rfl
  | cons c cs ih =>
    intro n v vs
    cases n with
    | zero =>
      cases vs with
      | nil => rw [over_none]; rw [over_zero, over_none]; rfl
      | cons v' vs => rw [over_zero]; show _ = over (v :: cs) (0 + 1) (v' :: vs); rw [over_succ]
    | succ n =>
      rw [over_succ, ih]
      show _ = over (c :: cs.set n v) (n + 1 + 1) vs
      cases vs with
      | nil => rw [over_none, over_none]
      | cons v' vs => rw [over_succ]

theorem fill_over (off : Nat) : ∀ (vs : List Value) (k : Nat) (cs : Array Value), ((vs.zipIdx k).foldl (fun (cs : Array Value) (p : Value × Nat) => cs.setIfInBounds (off + p.2) p.1) cs).toList = over cs.toList (off + k) vs := by
  intro vs
  induction vs with
  | nil => intro k cs; rw [over_none]; rfl
  | cons v vs ih =>
    intro k cs
    rw [List.zipIdx_cons, List.foldl_cons, ih, over_set, Array.toList_setIfInBounds]
    rfl

def lenL (l : List Value) : Nat := List.rec (motive := fun _ => Nat) 0 (fun _ _ n => Nat.succ n) l
theorem lenL_eq (l : List Value) : lenL l = l.length := by
  induction l with
  | nil => rfl
  | cons a l ih => show Nat.succ (lenL l) = _; rw [ih]; rfl

def fillL (place : Nat → Option (Nat × Nat)) (cells : List Value) (ps : List (Nat × Value)) : Option (List Value) :=
  List.rec (motive := fun _ => List Value → Option (List Value)) (fun cells => some cells)
    (fun p _ ih cells => match place p.1 with
      | none => none
      | some (off, size) => match Nat.beq (lenL p.2.cells.toList) size && Nat.ble (off + size) (lenL cells) with
        | true => ih (over cells off p.2.cells.toList)
        | false => none) ps cells
theorem fillL_eq (place : Nat → Option (Nat × Nat)) : ∀ (ps : List (Nat × Value)) (cells : Array Value), Instr.fill place cells ps = (fillL place cells.toList ps).map List.toArray := by
  intro ps
  induction ps with
  | nil => intro cells; simp [Instr.fill, fillL]
  | cons p ps ih =>
    intro cells
    obtain ⟨i, v⟩ := p
    unfold Instr.fill
    show _ = Option.map List.toArray (match place i with
      | none => none
      | some (off, size) => match Nat.beq (lenL v.cells.toList) size && Nat.ble (off + size) (lenL cells.toList) with
        | true => fillL place (over cells.toList off v.cells.toList) ps
        | false => none)
    cases place i with
    | none => rfl
    | some q =>
      obtain ⟨off, size⟩ := q
      simp only [lenL_eq, Array.length_toList]
      by_cases h1 : v.cells.size = size
      · subst h1
        simp only [Nat.beq_refl, Bool.true_and, ne_eq, not_true_eq_false, Bool.false_or]
        by_cases h2 : off + v.cells.size ≤ cells.size
        · have hb : Nat.ble (off + v.cells.size) cells.size = true := Nat.ble_eq_true_of_le h2
          rw [hb]
          have hn : ¬ (off + v.cells.size > cells.size) := by omega
          simp only [hn, decide_false, Bool.or_self, Bool.false_eq_true, if_false]
          rw [ih]
          congr 2
          have := fill_over off v.cells.toList 0 cells
          rw [Nat.add_zero] at this
          rw [← this, ← Array.foldl_toList, Array.toList_zipIdx]
        · have hb : Nat.ble (off + v.cells.size) cells.size = false := by
            cases hb : Nat.ble (off + v.cells.size) cells.size with
            | false => rfl
            | true => exact absurd (Nat.le_of_ble_eq_true hb) h2
          rw [hb]
          have hn : off + v.cells.size > cells.size := by omega
          simp [hn]
      · have hb : Nat.beq v.cells.size size = false := by
          cases hb : Nat.beq v.cells.size size with
          | false => rfl
          | true => exact absurd (Nat.eq_of_beq_eq_true hb) h1
        simp [hb, h1]

def nthL {α : Type} (l : List α) (i : Nat) : Option α :=
  List.rec (motive := fun _ => Nat → Option α) (fun _ => none) (fun a _ ih i => Nat.rec (motive := fun _ => Option α) (some a) (fun i' _ => ih i') i) l i
theorem nthL_eq {α : Type} : ∀ (l : List α) (i : Nat), nthL l i = l[i]? := by
  intro l
  induction l with
  | nil => intro i; rfl
  | cons a l ih =>
    intro i
    cases i with
    | zero => rfl
    | succ i => show nthL l i = _; rw [ih]; rfl
theorem nthA {α : Type} (a : Array α) (i : Nat) : a[i]? = nthL a.toList i := by rw [nthL_eq, Array.getElem?_toList]

def takeL {α : Type} (l : List α) (n : Nat) : List α :=
  List.rec (motive := fun _ => Nat → List α) (fun _ => []) (fun a _ ih n => Nat.rec (motive := fun _ => List α) [] (fun n' _ => a :: ih n') n) l n
theorem takeL_eq {α : Type} : ∀ (l : List α) (n : Nat), takeL l n = l.take n := by
  intro l
  induction l with
  | nil => intro n; simp [takeL]
  | cons a l ih =>
    intro n
    cases n with
    | zero => rfl
    | succ n => show a :: takeL l n = _; rw [ih]; rfl
def dropF {α : Type} (l : List α) (n : Nat) : List α :=
  Nat.rec (motive := fun _ => List α → List α) (fun l => l) (fun _ ih l => List.rec (motive := fun _ => List α) [] (fun _ l _ => ih l) l) n l
theorem dropF_eq {α : Type} : ∀ (n : Nat) (l : List α), dropF l n = l.drop n := by
  intro n
  induction n with
  | zero => intro l; rfl
  | succ n ih =>
    intro l
    cases l with
    | nil => rfl
    | cons a l => show dropF l n = _; rw [ih]; rfl
theorem extractL {α : Type} (a : Array α) (i n : Nat) : a.extract i (i + n) = ⟨takeL (dropF a.toList i) n⟩ := by
  apply Array.ext'
  rw [takeL_eq, dropF_eq, Array.toList_extract]
  simp [List.extract_eq_take_drop]

def appL {α : Type} (l m : List α) : List α := List.rec (motive := fun _ => List α) m (fun a _ ih => a :: ih) l
theorem appL_eq {α : Type} (l m : List α) : appL l m = l ++ m := by
  induction l with
  | nil => rfl
  | cons a l ih => show a :: appL l m = _; rw [ih]; rfl
theorem app3 {α : Type} (a b c : Array α) : a ++ b ++ c = ⟨appL a.toList (appL b.toList c.toList)⟩ := by
  apply Array.ext'
  rw [appL_eq, appL_eq]; simp
theorem app2 {α : Type} (a b : Array α) : a ++ b = ⟨appL a.toList b.toList⟩ := by
  apply Array.ext'
  rw [appL_eq]; simp

def partF (P : Program) (t : TypeId) (cs : List Value) (off : Nat) : Option Value :=
  match P.underlying t with
  | some u => match aggU u with
    | true => match sizeAt P t with
      | some n => some (.agg ⟨takeL (dropF cs off) n⟩)
      | none => none
    | false => nthL cs off
  | none => none
theorem partF_eq (P : Program) (t : TypeId) (cs : Array Value) (off : Nat) : aPart P t cs off = partF P t cs.toList off := by
  unfold aPart partF
  simp only [extractL, nthA]
  rfl

def someL (x : Option (List Value)) : Option Value := match x with | some cs => some (.agg ⟨cs⟩) | none => none
def buildF (P : Program) (t : TypeId) (ps : List (Nat × Value)) : Option Value :=
  match zeroOf P t, P.underlying t with
  | some z, some (.struct fields) => match aPlaces P fields.toList with
    | some pl => someL (fillL (nthL pl) z.cells.toList ps)
    | none => none
  | some z, some (.array _ elem) => match sizeAt P elem with
    | some size => someL (fillL (fun i => some (i * size, size)) z.cells.toList ps)
    | none => none
  | _, _ => none
theorem buildF_eq (P : Program) (t : TypeId) (ps : List (Nat × Value)) : aBuild P t ps = buildF P t ps := by
  unfold aBuild buildF
  cases zeroOf P t with
  | none => cases P.underlying t <;> rfl
  | some z =>
    cases P.underlying t with
    | none => rfl
    | some u =>
      cases u
      case struct fields =>
        simp only
        cases aPlaces P fields.toList with
        | none => rfl
        | some pl =>
          have : (fun i => pl.toArray[i]?) = nthL pl := funext fun i => by rw [nthA]
          simp only [this, fillL_eq]
          cases fillL (nthL pl) z.cells.toList ps <;> rfl
      case array len elem =>
        simp only
        cases sizeAt P elem with
        | none => rfl
        | some size =>
          simp only [fillL_eq]
          cases fillL (fun i => some (i * size, size)) z.cells.toList ps <;> rfl
      all_goals rfl
end
end Go.Abs
end
section
set_option linter.unusedVariables false
/-! The evaluator in the form that the kernel runs: small functions, bare recursors. -/
namespace Go.Abs
noncomputable section

def buildSliceF (P : Program) (t : TypeId) (len : Nat) (ps : List (Nat × Value)) (h : AHeap) : Option ARes :=
  match P.underlying t with
  | some (.slice elem) => match sizeAt P elem, zeroOf P elem with
    | some size, some z =>
      match Nat.ble (len * size) 65536 with
      | false => none
      | true =>
        match fillL (fun i => some (i * size, size)) ((Array.range (len * size)).map ((if len * size = 0 then #[] else z.cells)[· % (if len * size = 0 then #[] else z.cells).size]!)).toList ps with
        | none => none
        | some cells => match cells.all single with
          | true => some (.val (.slice (some ⟨h.next, 0, none⟩) len len) (some (h.add (mkCells elem cells))))
          | false => none
    | _, _ => none
  | _ => none
theorem buildSliceF_eq (P : Program) (t : TypeId) (len : Nat) (ps : List (Nat × Value)) (h : AHeap) : aBuildSlice P t len ps h = buildSliceF P t len ps h := by
  unfold aBuildSlice buildSliceF
  cases P.underlying t with
  | none => rfl
  | some u =>
    cases u
    case slice elem =>
      simp only
      cases sizeAt P elem with
      | none => cases zeroOf P elem <;> rfl
      | some size =>
        cases zeroOf P elem with
        | none => rfl
        | some z =>
          simp only
          cases Nat.ble (len * size) 65536 with
          | false => rfl
          | true =>
            simp only [fillL_eq]
            cases fillL (fun i => some (i * size, size)) ((Array.range (len * size)).map ((if len * size = 0 then #[] else z.cells)[· % (if len * size = 0 then #[] else z.cells).size]!)).toList ps <;> rfl
    all_goals rfl

def callF (E : Env) (c : Call) (ev : Operand → Option Value) (h : AHeap) : Option ARes :=
  match evs ev c.args.toList with
  | none => none
  | some args => match c.callee with
    | .builtin b => aBuiltin E b c.argTypes ⟨args⟩ h
    | .invoke recv name => match ev recv with
      | some (.iface t v) => match aMethod E.P t name with
        | some g => aCallee E g ⟨v :: args⟩ h
        | none => none
      | _ => none
    | .value f => match ev f with
      | some (.func (.func g) first captured) => aCallee E g ⟨appL (appL first.toList args) captured.toList⟩ h
      | some (.func (.yield l) first _) => some (.round l ⟨appL first.toList args⟩)
      | _ => none
theorem callF_eq (E : Env) (c : Call) (ev : Operand → Option Value) (h : AHeap) : aCall E c ev h = callF E c ev h := by
  unfold aCall callF
  cases evs ev c.args.toList with
  | none => rfl
  | some args =>
    simp only
    cases c.callee with
    | builtin b => rfl
    | invoke recv name =>
      simp only [app2]
      rfl
    | value f =>
      simp only [app2]
      rfl

def aopF (op : Op) : Env → (Operand → Option Value) → AHeap → Option ARes :=
  Op.casesOn (motive := fun _ => Env → (Operand → Option Value) → AHeap → Option ARes) op
    (fun x E ev h => keep (ev x))
    (fun x E ev h => keep (ev x))
    (fun c a b E ev h => match ev c with
    | some (.bool true) => keep (ev a)
    | some (.bool false) => keep (ev b)
    | _ => none)
    (fun elem E ev h => match zeroOf E.P elem with
    | some z => aNew elem z.cells.toList h
    | none => none)
    (fun elem x E ev h => match ev x with
    | some v => aNew elem v.cells.toList h
    | none => none)
    (fun t parts E ev h => match evParts ev parts.toList with
    | some ps => keep (buildF E.P t ps)
    | none => none)
    (fun t len parts E ev h => match evParts ev parts.toList with
    | some ps => buildSliceF E.P t len ps h
    | none => none)
    (fun t m k x E ev h => match ev m, ev k, ev x with
    | some m, some k, some v => match aUpdate E.P t m k v h with
      | some h' => some (.val undef (some h'))
      | none => none
    | _, _, _ => none)
    (fun t a E ev h => match ev a with
    | some (.pointer (some ⟨b, o, none⟩)) => keep (aLoad E.P t b o h)
    | _ => none)
    (fun t a x E ev h => match ev a, ev x with
    | some (.pointer (some ⟨b, o, none⟩)), some v => match aStore E.P t b o v h with
      | some h' => some (.val undef (some h'))
      | none => none
    | _, _ => none)
    (fun _ _ _ _ => none)
    (fun _ _ _ _ => none)
    (fun x E ev h => match ev x with
    | some (.pointer (some a)) => some (.val (.pointer (some a)) none)
    | some (.func (.func f) a c) => some (.val (.func (.func f) a c) none)
    | some (.func (.yield f) a c) => some (.val (.func (.yield f) a c) none)
    | _ => none)
    (fun op t x y x4 E ev h => match ev x, ev y with
    | some a, some b => keep (aBin E.P op t x y a b h)
    | _, _ => none)
    (fun op x1 x E ev h => match ev x with
    | some v => match gr v with | true => keep (statG E.P (Op.unary op v)) | false => none
    | none => none)
    (fun s d x E ev h => match ev x with
    | some v => match gr v with | true => keep (statG E.P (convert s d v)) | false => none
    | none => none)
    (fun _ _ _ _ _ => none)
    (fun t x E ev h => match ev x, E.P.underlying t with
    | some _, some (.interface _) => none
    | some v, some _ => some (.val (.iface t v) none)
    | _, _ => none)
    (fun fn first captured E ev h => match fn, evs ev first.toList, evs ev captured.toList with
    | .func f, some a, some c => some (.val (.func (.func f) a.toArray c.toArray) none)
    | _, _, _ => none)
    (fun t r E ev h => match (match r with
      | none => true
      | some x => match ev x, E.P.underlying t with | some (.int _ _), some (.map _ _) => true | _, _ => false) with
    | true => some (.val (.map (some h.next)) (some (h.add (.map [] 0 false))))
    | false => none)
    (fun _ _ _ _ _ => none)
    (fun t l c E ev h => match ev l, ev c with
    | some l, some c => aMakeSlice E.P t l c h
    | _, _ => none)
    (fun t x lo hi mx E ev h => match ev x, evOpt ev lo, evOpt ev hi, evOpt ev mx with
    | some v, some a, some b, some c => aSlice E.P t v a b c h
    | _, _, _, _ => none)
    (fun s x i E ev h => match ev x, E.P.underlying s with
    | some (.pointer (some ⟨b, o, none⟩)), some (.struct fields) => match nthL fields.toList i with
      | some f => match sizeAt E.P f.type with
        | some (_ + 1) => some (.val (.pointer (some ⟨b, o + f.offset, none⟩)) none)
        | _ => none
      | none => none
    | _, _ => none)
    (fun t x i E ev h => match ev x, E.P.underlying t with
    | some (.agg cs), some (.struct fields) => match nthL fields.toList i with
      | some f => keep (partF E.P f.type cs.toList f.offset)
      | none => none
    | _, _ => none)
    (fun t x ix E ev h => match ev x, ev ix, E.P.underlying t with
    | some (.pointer (some ⟨b, o, none⟩)), some (.int _ i), some (.array len elem) => match sizeAt E.P elem with
      | some size => if 0 ≤ i ∧ i < len then some (.val (.pointer (some ⟨b, o + i.toNat * size, none⟩)) none) else none
      | none => none
    | some (.slice (some ⟨b, o, none⟩) len _), some (.int _ i), some (.slice elem) => match sizeAt E.P elem with
      | some size => if 0 ≤ i ∧ i < len then some (.val (.pointer (some ⟨b, o + i.toNat * size, none⟩)) none) else none
      | none => none
    | _, _, _ => none)
    (fun t x ix E ev h => match ev x, ev ix, E.P.underlying t with
    | some (.agg cs), some (.int _ i), some (.array len elem) => match sizeAt E.P elem with
      | some size => if 0 ≤ i ∧ i < len then keep (aPart E.P elem cs (i.toNat * size)) else none
      | none => none
    | some (.string s), some (.int _ i), some .string => if 0 ≤ i then (match s[i.toNat]? with | some b => some (.val (.int .u8 b.toNat) none) | none => none) else none
    | _, _, _ => none)
    (fun t x k ok E ev h => match ev x, ev k with
    | some m, some k => keep (aLookup E.P t m k ok h)
    | _, _ => none)
    (fun t m k x E ev h => match ev m, ev k, ev x with
    | some m, some k, some v => match aUpdate E.P t m k v h with
      | some h' => some (.val undef (some h'))
      | none => none
    | _, _, _ => none)
    (fun t m k E ev h => match ev m, ev k with
    | some m, some k => aEntryOf E.P t m k h
    | _, _ => none)
    (fun x0 m s x E ev h => match ev m, ev s, ev x with
    | some m, some s, some v => match aEntryStore m s v h with
      | some h' => some (.val undef (some h'))
      | none => none
    | _, _, _ => none)
    (fun t x E ev h => match ev x with
    | some v => aRange E.P t v h
    | none => none)
    (fun it s E ev h => match ev it with
    | some v => aNext v s h
    | none => none)
    (fun it E ev h => match ev it with
    | some v => keep (aEntry v h)
    | none => none)
    (fun x x1 asserted ok E ev h => match ev x with
    | some v => keep (aAssert E.P v asserted ok)
    | none => none)
    (fun t i E ev h => match ev t with
    | some (.tuple vs) => keep (nthL vs.toList i)
    | _ => none)
    (fun c E ev h => callF E c ev h)
    (fun _ _ _ _ => none)
    (fun _ _ _ _ => none)
    (fun _ _ _ _ => none)
    (fun _ _ _ _ _ => none)
    (fun _ _ _ _ _ _ => none)
    (fun _ _ _ _ _ => none)

theorem aopF_eq (E : Env) (o : Oper) (ev : Operand → Option Value) (h : AHeap) : aopF o.op E ev h = aop E o ev h := by
  obtain ⟨dst, op, type, pos, after, guard⟩ := o
  cases op
  case build t ps => simp only [aopF, aop, buildF_eq]; rfl
  case buildSlice t n ps => simp only [aopF, aop, buildSliceF_eq]; rfl
  case field t x i => simp only [aopF, aop, nthA, partF_eq]; rfl
  case fieldAddr t x i => simp only [aopF, aop, nthA]; rfl
  case extract t i => simp only [aopF, aop, nthA]; rfl
  case call c => simp only [aopF, aop, callF_eq]
  all_goals rfl

def getF (a : ATmps) (i : Nat) : Value := a.get i
theorem getF_eq (a : ATmps) (i : Nat) : getF a i = a.get i := rfl

def evalF (P : Program) (t : ATmps) (x : Operand) : Option Value :=
  Operand.casesOn (motive := fun _ => Option Value) x (fun i => some (getF t i))
    (fun v => Bool.rec (motive := fun _ => Option Value) none (some v) (gr v))
    (fun g => Bool.rec (motive := fun _ => Option Value) none (some (.pointer (some ⟨g, 0, none⟩))) (Nat.ble (Nat.succ g) P.globals.size))
    (fun f => some (.func (.func f) #[] #[]))
theorem evalF_eq (P : Program) (t : ATmps) : evalF P t = aeval P t := by
  funext x
  cases x with
  | tmp i => simp only [evalF, aeval, getF_eq]
  | const v => simp only [evalF, aeval]; cases gr v <;> rfl
  | global g => simp only [evalF, aeval]; show Bool.rec (motive := fun _ => Option Value) none (some (.pointer (some ⟨g, 0, none⟩))) (Nat.ble (g + 1) P.globals.size) = _; cases Nat.ble (g + 1) P.globals.size <;> rfl
  | func f => rfl

def doF (r : Rec) (x : Option ARes) (h : AHeap) : Option (Value × AHeap) :=
  Option.rec (motive := fun _ => Option (Value × AHeap)) none
    (fun y => ARes.casesOn (motive := fun _ => Option (Value × AHeap)) y
      (fun v h' => Option.rec (motive := fun _ => Option (Value × AHeap)) (some (v, h)) (fun h' => some (v, h')) h')
      (fun g args => r.call g args h)
      (fun l args => aRound r l args h)) x
theorem doF_eq (r : Rec) (x : Option ARes) (h : AHeap) : doF r x h = aDo r x h := by
  unfold aDo
  split <;> rfl

def wantedF (ops : Array Oper) (t : ATmps) (g : Option (Nat × Bool)) : Option Bool :=
  Option.rec (motive := fun _ => Option Bool) (some true) (fun p => match (ops[p.1]?).bind (·.dst) with
    | none => some false
    | some d => match getF t d with
      | .bool b => some (b == p.2)
      | .tuple _ => some false
      | _ => none) g
theorem wantedF_eq (ops : Array Oper) (t : ATmps) (o : Oper) : wantedF ops t o.guard = awanted ops t o := by
  unfold wantedF awanted
  cases o.guard with
  | none => rfl
  | some p => simp only [getF_eq]; rfl

def opsF (l : List Oper) : Rec → Env → Array Oper → ATmps → AHeap → Option (ATmps × AHeap) :=
  List.rec (motive := fun _ => Rec → Env → Array Oper → ATmps → AHeap → Option (ATmps × AHeap)) (fun _ _ _ t h => some (t, h))
    (fun o _ ih r E ops t h => Option.rec (motive := fun _ => Option (ATmps × AHeap)) none
      (fun w => Bool.rec (motive := fun _ => Option (ATmps × AHeap)) (ih r E ops (t.put o.dst undef) h)
        (Option.rec (motive := fun _ => Option (ATmps × AHeap)) none (fun p => Prod.rec (motive := fun _ => Option (ATmps × AHeap)) (fun v h' => ih r E ops (t.put o.dst v) h') p)
          (doF r (aopF o.op E (evalF E.P t) h) h)) w)
      (wantedF ops t o.guard)) l
theorem opsF_eq (r : Rec) (E : Env) (ops : Array Oper) : ∀ (l : List Oper) (t : ATmps) (h : AHeap), opsF l r E ops t h = aOps r E ops l t h := by
  intro l
  induction l with
  | nil => intro t h; rfl
  | cons o l ih =>
    intro t h
    unfold aOps
    rw [← wantedF_eq, ← aopF_eq, ← evalF_eq, ← doF_eq]
    show Option.rec (motive := fun _ => Option (ATmps × AHeap)) none
      (fun w => Bool.rec (motive := fun _ => Option (ATmps × AHeap)) (opsF l r E ops (t.put o.dst undef) h)
        (Option.rec (motive := fun _ => Option (ATmps × AHeap)) none (fun p => Prod.rec (motive := fun _ => Option (ATmps × AHeap)) (fun v h' => opsF l r E ops (t.put o.dst v) h') p)
          (doF r (aopF o.op E (evalF E.P t) h) h)) w)
      (wantedF ops t o.guard) = _
    cases wantedF ops t o.guard with
    | none => rfl
    | some w =>
      cases w with
      | false => exact ih _ _
      | true =>
        simp only
        cases doF r (aopF o.op E (evalF E.P t) h) h with
        | none => rfl
        | some p => exact ih _ _

def regD (r : Rec) (E : Env) (ops : Array Oper) (t : ATmps) (h : AHeap) : Option (ATmps × AHeap) := match bits ops with
  | b => match slotsOK ops b with
    | true => aDraw r E ops b (canon ops b) 0 t h []
    | false => none

def codeF (c : Code) : Rec → Env → FuncId → Option Nat → ATmps → List Nat → AHeap → CodeRes :=
  Code.casesOn (motive := fun _ => Rec → Env → FuncId → Option Nat → ATmps → List Nat → AHeap → CodeRes) c
    (fun _ _ _ _ t d h => some (.normal, t, d, h))
    (fun _ ops draw r E _ _ t d h => Option.rec (motive := fun _ => CodeRes) none (fun p => Prod.rec (motive := fun _ => CodeRes) (fun t' h' => some (.normal, t', d, h')) p)
      (Bool.rec (motive := fun _ => Option (ATmps × AHeap)) (opsF ops.toList r E ops t h) (regD r E ops t h) draw))
    (fun a b r _ f ro t d h => match r.code f ro a t d h with
      | some (.normal, t1, d1, h1) => r.code f ro b t1 d1 h1
      | x => x)
    (fun c a b r E f ro t d h => match evalF E.P t c with
      | some (.bool true) => r.code f ro a t d h
      | some (.bool false) => r.code f ro b t d h
      | _ => none)
    (fun id b r _ f ro t d h => match r.code f ro b t d h with
      | some (.exit k, t1, d1, h1) => match Nat.beq k id with
        | true => some (.normal, t1, d1, h1)
        | false => some (.exit k, t1, d1, h1)
      | x => x)
    (fun b r _ f ro t d h => r.rounds f ro b t d h)
    (fun g ps assign body r E f ro t d h => aRangeFunc r E f ro g ps assign body t d h)
    (fun id _ _ _ _ t d h => some (.exit id, t, d, h))
    (fun _ _ _ _ _ _ _ _ => none)
    (fun _ _ _ _ _ t d h => some (.normal, t, d, h))
    (fun _ _ _ _ _ _ _ _ => none)
    (fun _ _ _ _ t d h => some (.ret, t, d, h))
    (fun _ _ _ _ _ _ _ _ => none)

def stepF (r : Rec) (E : Env) : Rec where
  code f ro c t d h := codeF c r E f ro t d h
  rounds := (step r E).rounds
  call := (step r E).call
theorem stepF_eq (r : Rec) (E : Env) : stepF r E = step r E := by
  unfold stepF
  have : (fun f ro c t d h => codeF c r E f ro t d h) = (step r E).code := by
    funext f ro c t d h
    cases c with
    | region id ops draw =>
      cases draw with
      | false =>
        show Option.rec (motive := fun _ => CodeRes) none (fun p => Prod.rec (motive := fun _ => CodeRes) (fun t' h' => some (.normal, t', d, h')) p) (opsF ops.toList r E ops t h) = _
        simp only [step]
        rw [opsF_eq]
        cases aOps r E ops ops.toList t h <;> rfl
      | true =>
        show Option.rec (motive := fun _ => CodeRes) none (fun p => Prod.rec (motive := fun _ => CodeRes) (fun t' h' => some (.normal, t', d, h')) p) (regD r E ops t h) = _
        simp only [step, regD]
        cases slotsOK ops (bits ops) with
        | false => rfl
        | true => cases aDraw r E ops (bits ops) (canon ops (bits ops)) 0 t h [] <;> rfl
    | cond c a b => simp only [codeF, step, evalF_eq]; rfl
    | _ => rfl
  rw [this]

def evF (E : Env) (n : Nat) : Rec := Nat.rec (motive := fun _ => Rec) { code := fun _ _ _ _ _ _ => none, rounds := fun _ _ _ _ _ _ => none, call := fun _ _ _ => none } (fun _ r => stepF r E) n
theorem evF_eq (E : Env) : ∀ n, evF E n = ev E n := by
  intro n
  induction n with
  | zero => rfl
  | succ n ih =>
    show stepF (evF E n) E = step (ev E n) E
    rw [stepF_eq, ih]
end
end Go.Abs
end
section
set_option linter.unusedVariables false
/-! Calls that were worked out before: a run in pieces. -/
namespace Go.Abs
noncomputable section
variable {ρ : Ren} {w : World}

/-! ### Objects that say the same -/
def optEq (a b : Option Value) : Bool := match a, b with
  | some x, some y => veq 6 x y
  | none, none => true
  | _, _ => false
theorem optEq_sound {a b : Option Value} (h : optEq a b = true) : a = b := by
  unfold optEq at h
  split at h
  · rw [veq_sound 6 _ _ h]
  · rfl
  · cases h
/-- The first n cells are alike. -/
def cellsEq (t u : Trie Value) (n : Nat) : Bool := Nat.rec (motive := fun _ => Bool) true (fun i ih => Bool.rec (motive := fun _ => Bool) false ih (optEq (t.get i) (u.get i))) n
theorem cellsEq_sound {t u : Trie Value} : ∀ {n : Nat}, cellsEq t u n = true → ∀ i, i < n → t.get i = u.get i := by
  intro n
  induction n with
  | zero => intro _ i hi; omega
  | succ n ih =>
    intro h i hi
    have h : Bool.rec (motive := fun _ => Bool) false (cellsEq t u n) (optEq (t.get n) (u.get n)) = true := h
    cases ho : optEq (t.get n) (u.get n) with
    | false => rw [ho] at h; cases h
    | true =>
      rw [ho] at h
      rcases Nat.lt_succ_iff_lt_or_eq.1 hi with hi | rfl
      · exact ih h i hi
      · exact optEq_sound ho

def entEq : List MapEntry → List MapEntry → Bool
  | [], [] => true
  | a :: as, b :: bs => veq 6 a.key b.key && veq 6 a.val b.val && Nat.beq a.born b.born && entEq as bs
  | _, _ => false
theorem entEq_sound : ∀ {as bs : List MapEntry}, entEq as bs = true → as = bs := by
  intro as
  induction as with
  | nil => intro bs h; cases bs with
    | nil => rfl
    | cons b bs => simp [entEq] at h
  | cons a as ih => intro bs h; cases bs with
    | nil => simp [entEq] at h
    | cons b bs =>
      simp only [entEq, Bool.and_eq_true] at h
      obtain ⟨⟨⟨h1, h2⟩, h3⟩, h4⟩ := h
      have e1 := veq_sound 6 _ _ h1
      have e2 := veq_sound 6 _ _ h2
      have e3 := Nat.eq_of_beq_eq_true h3
      cases a; cases b
      simp only at e1 e2 e3
      rw [e1, e2, e3, ih h4]

def objEq : AObj → AObj → Bool
  | .cells n t e r o s, .cells n' t' e' r' o' s' => Nat.beq n n' && Nat.beq e e' && (r == r') && (o == o') && Nat.beq s s' && cellsEq t t' n
  | .map es c r, .map es' c' r' => entEq es es' && Nat.beq c c' && (r == r')
  | _, _ => false
theorem objEq_OR {a b : AObj} (h : objEq a b = true) {l : Loc} {x : Option Obj} (H : OR ρ a l x) : OR ρ b l x := by
  unfold objEq at h
  split at h
  · simp only [Bool.and_eq_true, beq_iff_eq] at h
    obtain ⟨⟨⟨⟨⟨h1, h2⟩, h3⟩, h4⟩, h5⟩, h6⟩ := h
    have e1 := Nat.eq_of_beq_eq_true h1
    have e2 := Nat.eq_of_beq_eq_true h2
    have e5 := Nat.eq_of_beq_eq_true h5
    subst e1; subst e2; subst h3; subst h4; subst e5
    obtain ⟨q1, q2, q3, q4, arr, q5, q6, q7⟩ := H
    exact ⟨q1, q2, q3, q4, arr, q5, q6, fun i v hi hv => q7 i v hi (by rw [cellsEq_sound h6 i hi]; exact hv)⟩
  · simp only [Bool.and_eq_true, beq_iff_eq] at h
    obtain ⟨⟨h1, h2⟩, h3⟩ := h
    have e1 := entEq_sound h1
    have e2 := Nat.eq_of_beq_eq_true h2
    subst e1; subst e2; subst h3
    exact H
  · cases h
theorem objEq_ro {a b : AObj} (h : objEq a b = true) : b.ro = a.ro := by
  unfold objEq at h
  split at h
  · simp only [Bool.and_eq_true, beq_iff_eq] at h
    obtain ⟨⟨⟨⟨⟨h1, h2⟩, h3⟩, h4⟩, h5⟩, h6⟩ := h
    exact h3.symm
  · simp only [Bool.and_eq_true, beq_iff_eq] at h
    exact h.2.symm
  · cases h

/-! ### A call that was worked out -/
structure Done where
  g : Nat
  args : List Value
  next : Nat
  hin : List (Nat × AObj)
  v : Value
  next' : Nat
  hout : List (Nat × AObj)

def layL (l : List (Nat × AObj)) (t : Trie AObj) : Trie AObj := List.rec (motive := fun _ => Trie AObj → Trie AObj) (fun t => t) (fun p _ ih t => ih (t.set p.1 p.2)) l t
def dropL (l : List (Nat × AObj)) (t : Trie AObj) : Trie AObj := List.rec (motive := fun _ => Trie AObj → Trie AObj) (fun t => t) (fun p _ ih t => ih (t.del p.1)) l t
def lay (next : Nat) (l : List (Nat × AObj)) : AHeap := { next, bl := layL l .leaf }
def holds (h : AHeap) : List (Nat × AObj) → Bool
  | [] => true
  | (i, o) :: l => (match h.get i with | some x => objEq x o | none => false) && holds h l

def Done.tab (s : Done) (g : FuncId) (args : Array Value) (h : AHeap) : Option (Value × AHeap) :=
  match Nat.beq g s.g with
  | false => none
  | true => match Nat.beq h.next s.next && veqL (veq 6) args.toList s.args && holds h s.hin with
    | false => none
    | true => some (s.v, { next := s.next', bl := layL s.hout (dropL s.hin h.bl) })
def Done.check (s : Done) (r : Rec) : Bool := match r.call s.g s.args.toArray (lay s.next s.hin) with
  | some (v, h') => veq 6 v s.v && Nat.beq h'.next s.next' && holds h' s.hout
  | none => false

theorem layL_get : ∀ (l : List (Nat × AObj)) (t : Trie AObj) (x : Nat), (layL l t).get x = t.get x ∨ ∃ o, (x, o) ∈ l ∧ (layL l t).get x = some o := by
  intro l
  induction l with
  | nil => intro t x; exact .inl rfl
  | cons p l ih =>
    intro t x
    rcases ih (t.set p.1 p.2) x with h | ⟨o, h1, h2⟩
    · rw [Trie.get_set] at h
      by_cases e : x = p.1
      · rw [if_pos e] at h
        exact .inr ⟨p.2, by rw [e]; simp, h⟩
      · rw [if_neg e] at h; exact .inl h
    · exact .inr ⟨o, List.mem_cons_of_mem _ h1, h2⟩
theorem dropL_get : ∀ (l : List (Nat × AObj)) (t : Trie AObj) (x : Nat), (dropL l t).get x = if x ∈ l.map (·.1) then none else t.get x := by
  intro l
  induction l with
  | nil => intro t x; rfl
  | cons p l ih =>
    intro t x
    show (dropL l (t.del p.1)).get x = _
    rw [ih, Trie.get_del]
    by_cases e : x = p.1
    · simp [e]
    · have : (x ∈ (p :: l).map (·.1)) ↔ x ∈ l.map (·.1) := by rw [List.map_cons, List.mem_cons]; exact ⟨fun h => h.resolve_left e, .inr⟩
      simp only [if_neg e, this]
theorem holds_mem {h : AHeap} : ∀ {l : List (Nat × AObj)}, holds h l = true → ∀ i o, (i, o) ∈ l → ∃ x, h.get i = some x ∧ objEq x o = true := by
  intro l
  induction l with
  | nil => intro _ i o hm; cases hm
  | cons p l ih =>
    intro hh i o hm
    obtain ⟨j, q⟩ := p
    simp only [holds, Bool.and_eq_true] at hh
    rcases List.mem_cons.1 hm with e | hm
    · cases e
      have := hh.1
      split at this
      · rename_i x hx; exact ⟨x, hx, this⟩
      · cases this
    · exact ih hh.2 i o hm
/-- What of a list is said by a heap is said of the world. -/
theorem holds_HR {h : AHeap} {g : Got} (H : HR ρ h.get w) {l : List (Nat × AObj)} (hh : holds h l = true) (hg : ∀ x o, g x = some o → (x, o) ∈ l) : HR ρ g w := by
  refine ⟨fun i o hi => ?_, fun i j oi oj li lj hi hj hli hlj hij => ?_⟩
  · obtain ⟨x, hx, he⟩ := holds_mem hh i o (hg i o hi)
    obtain ⟨k, hk, hor⟩ := H.obj i x hx
    exact ⟨k, hk, objEq_OR he hor⟩
  · obtain ⟨x, hx, _⟩ := holds_mem hh i oi (hg i oi hi)
    obtain ⟨y, hy, _⟩ := holds_mem hh j oj (hg j oj hj)
    exact H.inj i j x y li lj hx hy hli hlj hij

theorem lay_mem {next : Nat} {l : List (Nat × AObj)} {x : Nat} {o : AObj} (h : (lay next l).get x = some o) : (x, o) ∈ l := by
  rcases layL_get l .leaf x with e | ⟨q, h1, h2⟩
  · have h : (layL l .leaf).get x = some o := h
    rw [e] at h; cases h
  · have h : (layL l .leaf).get x = some o := h
    rw [h2] at h; cases h; exact h1

/-- A CALL THAT WAS WORKED OUT AT A PART OF THE HEAP IS WORKED OUT AT THE WHOLE. -/
theorem Done.ok {E : Env} {r : Rec} (R : RecOK E r) (s : Done) (hc : s.check r = true) : CallOK E s.tab := by
  intro g args h v h' e
  unfold Done.tab at e
  split at e
  · cases e
  · rename_i hg
    have hg := Nat.eq_of_beq_eq_true hg
    subst hg
    split at e
    · cases e
    · rename_i hm
      simp only [Bool.and_eq_true] at hm
      obtain ⟨⟨hn, ha⟩, hh⟩ := hm
      have hn := Nat.eq_of_beq_eq_true hn
      have ha : args = s.args.toArray := by
        have := veqL_sound (veq_sound 6) ha
        rw [← this]
      simp only [Option.some.injEq, Prod.mk.injEq] at e
      obtain ⟨rfl, rfl⟩ := e
      unfold Done.check at hc
      split at hc
      · rename_i v1 h1 hcall
        simp only [Bool.and_eq_true] at hc
        obtain ⟨⟨hv, hn1⟩, ho⟩ := hc
        have hv := veq_sound 6 _ _ hv
        have hn1 := Nat.eq_of_beq_eq_true hn1
        subst hv
        obtain ⟨q1, q2, q3⟩ := R.call hcall
        have hle : h.next ≤ s.next' := by rw [hn, ← hn1]; exact q1
        refine ⟨hle, q2, ?_⟩
        intro ρ w args' H hok hfr hargs hG ro'
        -- the heap behind the call
        have hget : ∀ x o, (layL s.hout (dropL s.hin h.bl)).get x = some o → (x, o) ∈ s.hout ∨ (x ∉ s.hin.map (·.1) ∧ h.get x = some o) := by
          intro x o hx
          rcases layL_get s.hout (dropL s.hin h.bl) x with e | ⟨q, m1, m2⟩
          · rw [e, dropL_get] at hx
            by_cases hi : x ∈ s.hin.map (·.1)
            · rw [if_pos hi] at hx; cases hx
            · rw [if_neg hi] at hx; exact .inr ⟨hi, hx⟩
          · rw [m2] at hx; cases hx; exact .inl m1
        have hin : ∀ x o, (lay s.next s.hin).get x = some o → x ∈ s.hin.map (·.1) ∧ ∃ y, h.get x = some y ∧ objEq y o = true := by
          intro x o hx
          have := lay_mem hx
          exact ⟨List.mem_map.2 ⟨_, this, rfl⟩, holds_mem hh x o this⟩
        have H1 : HR ρ (lay s.next s.hin).get w := holds_HR H hh fun x o hx => lay_mem hx
        have hok1 : (lay s.next s.hin).ok := fun x o hx => by
          obtain ⟨_, y, hy, _⟩ := hin x o hx
          have := hok x y hy
          show x < s.next
          omega
        refine (q3 H1 hok1 (by show Fresh ρ s.next h1.next; rw [← hn, hn1]; exact hfr) (ha ▸ hargs) hG ro').mono ?_
        intro en w' he
        cases en with
        | panicked c => exact he.elim
        | outgrown => exact he.elim
        | returned v' =>
          obtain ⟨ρ', r1, r2, r3, m⟩ := he
          have le := m.le
          have wrH : ∀ B, Wr ρ (lay s.next s.hin).get B → Wr ρ h.get B := fun B ⟨i, o, l, hi, hl, hb, hro⟩ => by
            obtain ⟨_, y, hy, hoe⟩ := hin i o hi
            exact ⟨i, y, l, hy, hl, hb, by rw [← objEq_ro hoe]; exact hro⟩
          have tkH : ∀ B, Tk ρ (lay s.next s.hin).get B → ∃ i y l, i ∈ s.hin.map (·.1) ∧ h.get i = some y ∧ ρ i = some l ∧ l.block = B := fun B ⟨i, o, l, hi, hl, hb⟩ => by
            obtain ⟨hm, y, hy, hoe⟩ := hin i o hi
            exact ⟨i, y, l, hm, hy, hl, hb⟩
          have outs : ∀ {x o}, (x, o) ∈ s.hout → ∃ y, h1.get x = some y ∧ objEq y o = true := fun hx => holds_mem ho _ _ hx
          -- a block beside the part is not of the part
          have apart : ∀ {x o l}, x ∉ s.hin.map (·.1) → h.get x = some o → ρ x = some l → ¬ Tk ρ (lay s.next s.hin).get l.block := by
            intro x o l hx ho hl ht
            obtain ⟨i, y, k, hi, hy, hk, hb⟩ := tkH _ ht
            have hix : i ≠ x := fun e => hx (e ▸ hi)
            exact H.inj i x _ _ _ _ hy ho hk hl hix hb
          have two : ∀ {x y ox oy l1 l2}, (x, ox) ∈ s.hout → y ∉ s.hin.map (·.1) → h.get y = some oy → ρ' x = some l1 → ρ' y = some l2 → l1.block ≠ l2.block := by
            intro x y ox oy l1 l2 hx hy hgy hl1 hl2 hb
            obtain ⟨l, hl, _⟩ := H.obj y oy hgy
            rw [le _ _ hl] at hl2; cases hl2
            obtain ⟨z, hz, _⟩ := outs hx
            exact apart hy hgy hl (m.tr _ (H.block_lt hgy hl) ⟨x, z, l1, hz, hl1, hb⟩)
          refine ⟨ρ', r1, ⟨fun x o hx => ?_, fun x y ox oy l1 l2 hx hy hl1 hl2 hxy => ?_⟩, fun x o hx => ?_, ?_⟩
          · rcases hget x o hx with hx | ⟨hx, hg⟩
            · obtain ⟨y, hy, he⟩ := outs hx
              obtain ⟨k, hk, hor⟩ := r2.obj x y hy
              exact ⟨k, hk, objEq_OR he hor⟩
            · obtain ⟨l, hl, hor⟩ := H.obj x o hg
              refine ⟨l, le _ _ hl, ?_⟩
              have hna := apart hx hg hl
              rw [m.keep _ (H.block_lt hg hl) fun ⟨i, oi, li, hi, hli, hlb, _⟩ => hna ⟨i, oi, li, hi, hli, hlb⟩]
              exact hor.mono le
          · rcases hget x ox hx with hx | ⟨hx, hgx⟩ <;> rcases hget y oy hy with hy | ⟨hy, hgy⟩
            · obtain ⟨a, ha', _⟩ := outs hx
              obtain ⟨b, hb', _⟩ := outs hy
              exact r2.inj x y _ _ _ _ ha' hb' hl1 hl2 hxy
            · exact two hx hy hgy hl1 hl2
            · exact fun hb => two hy hx hgx hl2 hl1 hb.symm
            · obtain ⟨l, hl, _⟩ := H.obj x ox hgx
              obtain ⟨k, hk, _⟩ := H.obj y oy hgy
              rw [le _ _ hl] at hl1; cases hl1
              rw [le _ _ hk] at hl2; cases hl2
              exact H.inj x y _ _ _ _ hgx hgy hl hk hxy
          · show x < s.next'
            rcases hget x o hx with hx | ⟨hx, hg⟩
            · obtain ⟨y, hy, _⟩ := outs hx
              have := r3 x y hy
              omega
            · have := hok x o hg; omega
          · have hdom := m.dom
            have hN : h1.next = s.next' := hn1
            refine ⟨le, fun i hi => ?_, hle, m.size, fun B hB hw => ?_, fun B hB hw => ?_, fun B hB hw => ?_, m.os, m.out⟩
            · rcases hdom i hi with h | ⟨h2, h3⟩
              · exact .inl h
              · have h2 : s.next ≤ i := h2
                exact .inr ⟨by omega, by show i < s.next'; omega⟩
            · exact m.keep B hB fun hw' => hw (wrH B hw')
            · obtain ⟨i, o, l, hi, hl, hb, hro⟩ := hw
              rcases hget i o hi with hx | ⟨hx, hg⟩
              · obtain ⟨y, hy, he⟩ := outs hx
                exact wrH B (m.wr B hB ⟨i, y, l, hy, hl, hb, by rw [← objEq_ro he]; exact hro⟩)
              · obtain ⟨l', hl', _⟩ := H.obj i o hg
                rw [le _ _ hl'] at hl; cases hl
                exact ⟨i, o, _, hg, hl', hb, hro⟩
            · obtain ⟨i, o, l, hi, hl, hb⟩ := hw
              rcases hget i o hi with hx | ⟨hx, hg⟩
              · obtain ⟨y, hy, he⟩ := outs hx
                obtain ⟨j, z, k, _, hz, hk, hkb⟩ := tkH B (m.tr B hB ⟨i, y, l, hy, hl, hb⟩)
                exact ⟨j, z, k, hz, hk, hkb⟩
              · obtain ⟨l', hl', _⟩ := H.obj i o hg
                rw [le _ _ hl'] at hl; cases hl
                exact ⟨i, o, _, hg, hl', hb⟩
      · cases hc

/-! ### The evaluator with such calls at hand -/
def tabs (l : List Done) (g : FuncId) (args : Array Value) (h : AHeap) : Option (Value × AHeap) :=
  match l with
  | [] => none
  | s :: l => match s.tab g args h with
    | some x => some x
    | none => tabs l g args h
theorem tabs_ok {E : Env} : ∀ {l : List Done}, (∀ s ∈ l, CallOK E s.tab) → CallOK E (tabs l) := by
  intro l
  induction l with
  | nil => intro _ g args h v h' e; simp [tabs] at e
  | cons s l ih =>
    intro hl g args h v h' e
    simp only [tabs] at e
    split at e
    · rename_i x hx; cases e; exact hl s (by simp) hx
    · exact ih (fun s hs => hl s (by simp [hs])) e

def evT (E : Env) (tab : FuncId → Array Value → AHeap → Option (Value × AHeap)) (n : Nat) : Rec :=
  Nat.rec (motive := fun _ => Rec) { code := fun _ _ _ _ _ _ => none, rounds := fun _ _ _ _ _ _ => none, call := fun _ _ _ => none }
    (fun _ r => { code := fun f ro c t d h => codeF c r E f ro t d h, rounds := (step r E).rounds,
                  call := fun g args h => match tab g args h with | some x => some x | none => (step r E).call g args h }) n
theorem evT_ok {E : Env} (F : Fits E) {tab : FuncId → Array Value → AHeap → Option (Value × AHeap)} (T : CallOK E tab) : ∀ n, RecOK E (evT E tab n) := by
  intro n
  induction n with
  | zero =>
    refine ⟨?_, ⟨0, ?_⟩, ?_⟩
    · intro _ _ _ _ _ _ _ _ _ _ h; cases h
    · intro _ _ _ _ _ _ _ _ _ _ h; cases h
    · intro _ _ _ _ _ h; cases h
  | succ n ih =>
    have hs : RecOK E (stepF (evT E tab n) E) := by rw [stepF_eq]; exact ⟨step_code F ih, step_rounds ih, step_call ih⟩
    refine ⟨hs.code, hs.rounds, ?_⟩
    intro g args h v h' e
    have e : (match tab g args h with | some x => some x | none => (step (evT E tab n) E).call g args h) = some (v, h') := e
    split at e
    · rename_i x hx; cases e; exact T hx
    · exact step_call ih e
end
end Go.Abs
end
