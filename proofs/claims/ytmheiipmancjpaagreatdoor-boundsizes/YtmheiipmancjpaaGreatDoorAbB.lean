/- Defined here: an evaluator of the model's code over symbolic heaps (no statement yet on what it is worth). By an AI agent. -/
import Derived.Test.YtmheiipmancjpaaGreatDoorAbA
import Derived.CheckFast
import Derived.Orders
set_option linter.unusedVariables false
set_option linter.unusedSimpArgs false
section
/-! The abstract evaluator. -/
namespace Go.Abs
noncomputable section

/-- What a piece of the model that asks for the program alone yields. -/
def stat {α : Type} (P : Program) : Sem α → Option α
  | .pure a => some a
  | .program k => stat P (k P)
  | _ => none

structure Env where
  P : Program
  clones : FuncId → Bool

inductive ARes where
  | val (v : Value) (h : Option AHeap)
  | enter (f : FuncId) (args : Array Value)
  | round (l : Nat) (args : Array Value)

def evs (ev : Operand → Option Value) : List Operand → Option (List Value)
  | [] => some []
  | x :: xs => match ev x with
    | none => none
    | some v => match evs ev xs with
      | none => none
      | some vs => some (v :: vs)

def evParts (ev : Operand → Option Value) : List (Nat × Operand) → Option (List (Nat × Value))
  | [] => some []
  | (i, x) :: xs => match ev x with
    | none => none
    | some v => match evParts ev xs with
      | none => none
      | some vs => some ((i, v) :: vs)

def evOpt (ev : Operand → Option Value) : Option Operand → Option (Option Value)
  | none => some none
  | some x => match ev x with
    | none => none
    | some v => some (some v)

abbrev gr (v : Value) : Bool := ground 6 v
def keep (r : Option Value) : Option ARes := match r with | some v => some (.val v none) | none => none
def zeroOf (P : Program) (t : TypeId) : Option Value := match P.info? t with
  | some i => match i.zero with
    | some z => match gr z with | true => some z | false => none
    | none => none
  | none => none
def sizeAt (P : Program) (t : TypeId) : Option Nat := match P.info? t with | some i => some i.size | none => none
def aggU : TypeDesc → Bool
  | .struct _ | .array _ _ => true
  | _ => false
def mkCells (elem : TypeId) (vs : List Value) : AObj := .cells vs.length (Trie.ofList vs) elem false false 0
def mkOpen (elem : TypeId) (vs : List Value) (sz : Nat) : AObj := .cells vs.length (Trie.ofList vs) elem false true sz

/-- The same, where what it yields names no block. -/
def statG (P : Program) (s : Sem Value) : Option Value := match stat P s with
  | some v => match gr v with | true => some v | false => none
  | none => none

def aPart (P : Program) (t : TypeId) (cs : Array Value) (off : Nat) : Option Value :=
  match P.underlying t with
  | some u => match aggU u with
    | true => match sizeAt P t with
      | some n => some (.agg (cs.extract off (off + n)))
      | none => none
    | false => cs[off]?
  | none => none

def aPlaces (P : Program) : List Field → Option (List (Nat × Nat))
  | [] => some []
  | f :: fs => match sizeAt P f.type, aPlaces P fs with
    | some n, some ps => some ((f.offset, n) :: ps)
    | _, _ => none

def aBuild (P : Program) (t : TypeId) (ps : List (Nat × Value)) : Option Value :=
  match zeroOf P t, P.underlying t with
  | some z, some (.struct fields) => match aPlaces P fields.toList with
    | some pl => match Instr.fill (pl.toArray[·]?) z.cells ps with
      | some cs => some (.agg cs)
      | none => none
    | none => none
  | some z, some (.array _ elem) => match sizeAt P elem with
    | some size => match Instr.fill (fun i => some (i * size, size)) z.cells ps with
      | some cs => some (.agg cs)
      | none => none
    | none => none
  | _, _ => none

def aNew (elem : TypeId) (vs : List Value) (h : AHeap) : Option ARes := match vs.all single with
  | true => some (.val (.pointer (some ⟨h.next, 0, none⟩)) (some (h.add (mkCells elem vs))))
  | false => none

def aLoad (P : Program) (t : TypeId) (b o : Nat) (h : AHeap) : Option Value :=
  match P.underlying t, h.get b with
  | some u, some (.cells n tr _ _ _ _) =>
    match aggU u with
    | true => match sizeAt P t with
      | some sz => match Nat.ble (o + sz) n with
        | true => match tr.take o sz with
          | some l => some (.agg l.toArray)
          | none => none
        | false => none
      | none => none
    | false => match Nat.ble (o + 1) n with
      | true => tr.get o
      | false => none
  | _, _ => none

def aStore (P : Program) (t : TypeId) (b o : Nat) (v : Value) (h : AHeap) : Option AHeap :=
  match h.get b, sizeAt P t with
  | some (.cells n tr elem false opn sz), some size =>
    match Nat.beq v.cells.toList.length size && Nat.ble (o + size) n && v.cells.toList.all single with
    | true => some (h.put b (.cells n (tr.fill o v.cells.toList) elem false opn sz))
    | false => none
  | _, _ => none

/-- The bounds of a slice expression: as the model's, where nothing panics. -/
def aBounds (len cap : Nat) (low high mx : Option Value) : Option (Nat × Nat × Nat) :=
  let bound (v : Value) (y : Nat) : Option Nat := match v with
    | .int _ i => if 0 ≤ i ∧ i ≤ y then some i.toNat else none
    | _ => none
  match (match mx with | some v => bound v cap | none => some cap) with
  | none => none
  | some m => match (match high with | some v => bound v m | none => match mx with | none => some len | some _ => none) with
    | none => none
    | some h => match (match low with | some v => bound v h | none => some 0) with
      | none => none
      | some l => some (l, h, m)

/-- A value of one cell of which nothing is known. -/
def top : Value := .chan (some 0)
/-- Is a slice that begins at cell o, with so many elements, one whose end is open? -/
def openEnd (n : Nat) (opn : Bool) (sz o cap : Nat) : Bool := opn && Nat.beq (o + cap * sz) n

def aSlice (P : Program) (t : TypeId) (x : Value) (low high mx : Option Value) (h : AHeap) : Option ARes :=
  match P.underlying t, x with
  | some .string, .string s => match mx with
    | some _ => none
    | none => match aBounds s.size s.size low high none with
      | some (l, k, _) => some (.val (.string (s.extract l k)) none)
      | none => none
  | some (.array n elem), .pointer (some ⟨b, o, none⟩) =>
    match aBounds n n low high mx, sizeAt P elem, h.get b with
    | some (l, k, m), some size, some (.cells bn _ _ _ opn sz) =>
      let o' := if m = l then o else o + l * size
      match openEnd bn opn sz o' (m - l) with
      | true => some (.val top none)
      | false => some (.val (.slice (some ⟨b, o', none⟩) (k - l) (m - l)) none)
    | _, _, _ => none
  | some (.slice elem), .slice none len cap => match aBounds len cap low high mx, sizeAt P elem with
    | some (l, k, m), some _ => some (.val (.slice none (k - l) (m - l)) none)
    | _, _ => none
  | some (.slice elem), .slice (some ⟨b, o, none⟩) len cap =>
    match aBounds len cap low high mx, sizeAt P elem, h.get b with
    | some (l, k, m), some size, some (.cells bn _ _ _ opn sz) =>
      match openEnd bn opn sz o cap with
      | false =>
        let o' := if m = l then o else o + l * size
        match openEnd bn opn sz o' (m - l) with
        | true => some (.val top none)
        | false => some (.val (.slice (some ⟨b, o', none⟩) (k - l) (m - l)) none)
      | true => match Nat.beq size sz && Nat.ble 1 sz with
        | false => none
        | true => match mx with
          | some _ =>
            let o' := if m = l then o else o + l * size
            match openEnd bn opn sz o' (m - l) with
            | true => some (.val top none)
            | false => some (.val (.slice (some ⟨b, o', none⟩) (k - l) (m - l)) none)
          | none => match Nat.ble (l + 1) cap with
            | true => some (.val (.slice (some ⟨b, o + l * size, none⟩) (k - l) (cap - l)) none)
            | false => match Nat.beq l cap && Nat.beq k l with
              | true => some (.val (.slice (some ⟨b, o + l * size, some 0⟩) 0 0) none)
              | false => none
    | _, _, _ => none
  | some (.pointer arr), .pointer (some ⟨b, o, none⟩) => match P.underlying arr with
    | some (.array n elem) => match aBounds n n low high mx, sizeAt P elem, h.get b with
      | some (l, k, m), some size, some (.cells bn _ _ _ opn sz) =>
        let o' := if m = l then o else o + l * size
        match openEnd bn opn sz o' (m - l) with
        | true => some (.val top none)
        | false => some (.val (.slice (some ⟨b, o', none⟩) (k - l) (m - l)) none)
      | _, _, _ => none
    | _ => none
  | _, _ => none

/-- The first elements of what is appended or copied. -/
def aFirst (size n : Nat) (x : Value) (h : AHeap) : Option (List Value) :=
  match x with
  | .slice none _ _ => some []
  | .slice (some ⟨_, _, some _⟩) _ _ => match Nat.beq n 0 with | true => some [] | false => none
  | .slice (some ⟨b, o, none⟩) _ _ => match h.get b with
    | some (.cells bn tr _ _ _ _) => match Nat.ble (o + n * size) bn with
      | true => tr.take o (n * size)
      | false => none
    | _ => none
  | .string s => some ((s.extract 0 n).data.toList.map fun b => .int .u8 b.toNat)
  | _ => none
def aLenOf : Value → Option Nat
  | .slice _ n _ => some n
  | .string s => some s.size
  | _ => none

def zeroFits (P : Program) (t : TypeId) (n : Nat) : Bool := match zeroOf P t with | some z => Nat.beq z.cells.size n | none => false

def aAppend (P : Program) (argTypes : Array TypeId) (args : Array Value) (h : AHeap) : Option ARes :=
  match argTypes[0]?, argTypes[1]?, args[0]?, args[1]? with
  | some sType, some xType, some (Value.slice base len cap), some x =>
    match P.underlying sType, P.underlying xType with
    | some (.slice elem), some (.int _) =>
      -- 'append(s, make([]T, n)...)' behind a nil slice
      match P.info? elem, zeroOf P elem, base, x with
      | some i, some z, none, .int _ l =>
        if 0 < l ∧ l ≤ 2147483648 ∧ 1 ≤ i.size ∧ i.bytes ≤ 4096 ∧ len = 0 ∧ cap = 0 ∧ z.cells.size = i.size ∧ z.cells.toList.all single = true then
          some (.val (.slice (some ⟨h.next, 0, none⟩) l.toNat l.toNat) (some (h.add (mkOpen elem (Builtin.zeroCells z.cells l.toNat).toList i.size))))
        else none
      | _, _, _, _ => none
    | some (.slice elem), some ux =>
      match P.info? elem, (match ux with | .slice _ | .string => aLenOf x | _ => none) with
      | some i, some n =>
        let need := len + n
        match Nat.ble 1 i.size && Nat.ble need 2147483648 && Nat.ble i.bytes 4096 && zeroFits P elem i.size with
        | false => none
        | true => match aFirst i.size n x h with
          | none => none
          | some new => match base with
            | none => match Nat.ble need cap with
              | true => match Nat.beq n 0 with
                | true => some (.val (.slice none need cap) none)
                | false => none
              | false => match Nat.beq len 0 && Nat.beq new.length (need * i.size) with
                | true => some (.val (.slice (some ⟨h.next, 0, none⟩) need need) (some (h.add (mkOpen elem new i.size))))
                | false => none
            | some ⟨b, o, none⟩ => match h.get b with
              | some (.cells bn tr el ro opn sz) =>
                match Nat.ble need cap with
                | true => match ro || !(Nat.ble (o + need * i.size) bn) || !(Nat.beq new.length (n * i.size)) || !(new.all single) || (opn && Nat.beq sz 0) with
                  | true => none
                  | false => some (.val (.slice base need cap) (some (h.put b (.cells bn (tr.fill (o + len * i.size) new) el ro opn sz))))
                | false => match Nat.ble (o + len * i.size) bn with
                  | false => none
                  | true => match tr.take o (len * i.size) with
                    | none => none
                    | some old => match Nat.beq (old ++ new).length (need * i.size) with
                      | false => none
                      | true => match openEnd bn opn sz o cap with
                        | false => some (.val (.slice (some ⟨h.next, 0, none⟩) need need) (some (h.add (mkOpen elem (old ++ new) i.size))))
                        | true => match ro || !(Nat.beq sz i.size) || !(Nat.beq el elem) || !(new.all single) with
                          | true => none
                          | false =>
                            let h1 := h.del b
                            some (.val (.slice (some ⟨h1.next, 0, none⟩) need need) (some (h1.add (mkOpen elem (old ++ new) i.size))))
              | _ => none
            | some ⟨b, o, some k⟩ => match Nat.beq len 0 && Nat.beq cap 0 with
              | false => none
              | true => match Nat.beq n 0 && new.isEmpty with
                | true => some (.val (.slice (some ⟨b, o, some k⟩) 0 0) none)
                | false => match h.get b with
                  | some (.cells bn _ el false true sz) => match Nat.beq bn o && Nat.beq sz i.size && Nat.beq el elem && Nat.beq new.length (need * i.size) && new.all single with
                    | true =>
                      let h1 := h.del b
                      some (.val (.slice (some ⟨h1.next, 0, none⟩) need need) (some (h1.add (mkOpen elem new i.size))))
                    | false => none
                  | _ => none
      | _, _ => none
    | _, _ => none
  | _, _, _, _ => none

def aCopy (P : Program) (argTypes : Array TypeId) (args : Array Value) (h : AHeap) : Option ARes :=
  match argTypes[0]?, args[0]?, args[1]? with
  | some dType, some (Value.slice base dLen _), some src =>
    match P.underlying dType with
    | some (.slice elem) => match sizeAt P elem, aLenOf src with
      | some size, some n0 =>
        let n := Nat.min n0 dLen
        match aFirst size n src h with
        | none => none
        | some cs => match base with
          | none => some (.val (.int .i64 n) none)
          | some ⟨b, o, none⟩ => match h.get b with
            | some (.cells bn tr el false opn sz) => match Nat.ble (o + cs.length) bn && cs.all single with
              | true => some (.val (.int .i64 n) (some (h.put b (.cells bn (tr.fill o cs) el false opn sz))))
              | false => none
            | _ => none
          | some ⟨_, _, some _⟩ => match cs with
            | [] => some (.val (.int .i64 n) none)
            | _ :: _ => none
      | _, _ => none
    | _ => none
  | _, _, _ => none

def keysGround (es : List MapEntry) : Bool := es.all fun e => gr e.key

def aFind (P : Program) (kt : TypeId) (k : Value) (es : List MapEntry) : Option (Option (Nat × Value)) :=
  match gr k && keysGround es with
  | true => stat P (Instr.findKey kt k es)
  | false => none

def aLookup (P : Program) (t : TypeId) (x k : Value) (ok : Bool) (h : AHeap) : Option Value :=
  match P.underlying t with
  | some (.map kt elem) =>
    match (match x with
      | .map none => some []
      | .map (some r) => match h.get r with
        | some (.map es _ _) => some es
        | _ => none
      | _ => none) with
    | none => none
    | some es => match stat P (Instr.checkKey es.isEmpty 10000 kt k), aFind P kt k es with
      | some _, some f =>
        match (match f with | some (_, v) => some (v, true) | none => match zeroOf P elem with | some z => some (z, false) | none => none) with
        | some (v, b) => some (if ok then .tuple #[v, .bool b] else v)
        | none => none
      | _, _ => none
  | _ => none

/-- A key that is there already, and is the same to the bit. -/
def aSameKey (es : List MapEntry) (i : Nat) (k : Value) : Bool := match es[i]? with
  | some e => Instr.sameBits 10000 e.key k
  | none => false

def aUpdate (P : Program) (t : TypeId) (x k v : Value) (h : AHeap) : Option AHeap :=
  match P.underlying t, x with
  | some (.map kt _), .map (some r) => match h.get r with
    | some (.map es clock false) => match stat P (Instr.checkKey false 10000 kt k), aFind P kt k es with
      | some _, some (some (i, _)) => match aSameKey es i k with
        | true => some (h.put r (.map (es.modify i fun e => { e with key := k, val := v }) clock false))
        | false => none
      | some _, some none => some (h.put r (.map (es ++ [{ key := k, val := v, born := clock }]) (clock + 1) false))
      | _, _ => none
    | _ => none
  | _, _ => none

def aEntryOf (P : Program) (t : TypeId) (x k : Value) (h : AHeap) : Option ARes :=
  match P.underlying t, x with
  | some (.map kt elem), .map (some r) => match h.get r with
    | some (.map es clock false) => match stat P (Instr.checkKey false 10000 kt k), aFind P kt k es with
      | some _, some (some (i, v)) => match aSameKey es i k, es[i]? with
        | true, some e => some (.val (.tuple #[v, .int .i64 e.born]) (some (h.put r (.map (es.modify i fun e => { e with key := k }) clock false))))
        | _, _ => none
      | some _, some none => match zeroOf P elem with
        | some z => some (.val (.tuple #[z, .int .i64 clock]) (some (h.put r (.map (es ++ [{ key := k, val := z, born := clock }]) (clock + 1) false))))
        | none => none
      | _, _ => none
    | _ => none
  | _, _ => none

def aEntryStore (x s v : Value) (h : AHeap) : Option AHeap :=
  match x, s with
  | .map (some r), .int _ b => match h.get r with
    | some (.map es clock false) => match es.findIdx? (fun e => (e.born : Int) == b) with
      | some i => some (h.put r (.map (es.modify i fun e => { e with val := v }) clock false))
      | none => none
    | _ => none
  | _, _ => none

def aDelete (P : Program) (argTypes : Array TypeId) (args : Array Value) (h : AHeap) : Option ARes :=
  match argTypes[0]?, args[0]?, args[1]? with
  | some t, some (Value.map (some r)), some k => match P.underlying t, h.get r with
    | some (.map kt _), some (.map es clock false) => match stat P (Instr.checkKey es.isEmpty 10000 kt k), aFind P kt k es with
      | some _, some (some (i, _)) => some (.val (.tuple #[]) (some (h.put r (.map (es.eraseIdx i) clock false))))
      | some _, some none => some (.val (.tuple #[]) (some (h.put r (.map es clock false))))
      | _, _ => none
    | _, _ => none
  | _, _, _ => none

def aRange (P : Program) (t : TypeId) (x : Value) (h : AHeap) : Option ARes :=
  let mk (o : AObj) : Option ARes := some (.val (.pointer (some ⟨h.next, 0, none⟩)) (some (h.add o)))
  match P.underlying t, x with
  | some .string, .string s => mk (.strIter s 0)
  | some (.map _ _), .map none => mk (.mapIter none 0 #[] 0)
  | some (.map _ _), .map (some r) => match h.get r with
    | some (.map _ clock _) => mk (.mapIter (some r) clock #[] clock)
    | _ => none
  | _, _ => none

def aNext (it : Value) (isString : Bool) (h : AHeap) : Option ARes :=
  match it with
  | .pointer (some ⟨r, 0, none⟩) => match h.get r, isString with
    | some (.strIter s pos), true => match Nat.ble (pos + 1) s.size with
      | true => match Utf8.decode s pos with
        | (c, width) => some (.val (.tuple #[.bool true, .int .i64 pos, .int .i32 c]) (some (h.put r (.strIter s (pos + width)))))
      | false => some (.val (.tuple #[.bool false]) none)
    | some (.mapIter none _ _ _), false => some (.val (.tuple #[.bool false]) none)
    | some (.mapIter (some m) since seen last), false => match h.get m with
      | some (.map es clock _) =>
        match !seen.isEmpty && !es.isEmpty && es.all (fun e => decide (e.born ≥ last)) with
        | true => none
        | false =>
          match es.filter fun e => !seen.contains e.born with
          | [] => some (.val (.tuple #[.bool false]) none)
          | [e] => match Nat.ble (e.born + 1) since with
            | true => some (.val (.tuple #[.bool true, e.key, e.val]) (some (h.put r (.mapIter (some m) since (seen.push e.born) clock))))
            | false => none
          | _ => none
      | _ => none
    | _, _ => none
  | _ => none

def aEntry (it : Value) (h : AHeap) : Option Value :=
  match it with
  | .pointer (some ⟨r, 0, none⟩) => match h.get r with
    | some (.mapIter (some m) _ seen stepped) => match seen.back?, h.get m with
      | some stamp, some (.map es clock _) => match Nat.beq clock stepped, es.find? (·.born == stamp) with
        | true, some e => some (.tuple #[e.key, e.val])
        | _, _ => none
      | _, _ => none
    | _ => none
  | _ => none

def aAssert (P : Program) (x : Value) (asserted : TypeId) (ok : Bool) : Option Value :=
  match P.underlying asserted, x with
  | some (.interface _), _ => none
  | some _, .iface t v => match Nat.beq t asserted with
    | true => some (if ok then .tuple #[v, .bool true] else v)
    | false => match ok with
      | true => match zeroOf P asserted with | some z => some (.tuple #[z, .bool false]) | none => none
      | false => none
  | some _, .nilIface => match ok with
    | true => match zeroOf P asserted with | some z => some (.tuple #[z, .bool false]) | none => none
    | false => none
  | _, _ => none

def live (h : AHeap) (b : Nat) : Bool := match h.get b with | some (.cells ..) => true | _ => false

/-- '==' where an operand names a block. -/
def aEqual (P : Program) (t : TypeId) (x y : Value) (h : AHeap) : Option Bool :=
  match P.underlying t, x, y with
  | some (.pointer _), .pointer none, .pointer b => some b.isNone
  | some (.pointer _), .pointer _, .pointer none => some false
  | some (.pointer elem), .pointer (some ⟨a, o, none⟩), .pointer (some ⟨b, p, none⟩) => match sizeAt P elem with
    | some (_ + 1) => match live h a && live h b with
      | true => match Nat.beq a b with
        | true => some (Nat.beq o p)
        | false => some false
      | false => none
    | _ => none
  | some (.slice _), .slice none _ _, .slice b _ _ => some b.isNone
  | some (.slice _), .slice _ _ _, .slice none _ _ => some false
  | some (.map _ _), .map none, .map b => some b.isNone
  | some (.map _ _), .map _, .map none => some false
  | some (.func _ _ _), .nilFunc, .nilFunc => some true
  | some (.func _ _ _), .nilFunc, .func _ _ _ => some false
  | some (.func _ _ _), .func _ _ _, .nilFunc => some false
  | some (.interface _), .nilIface, .iface _ _ => some false
  | some (.interface _), .iface _ _, .nilIface => some false
  | _, _, _ => none

/-- A range held against a number. -/
def aRng (op : BinOp) (x y : Nat) (n : Int) : Option Bool :=
  match op with
  | .lss => if (y : Int) < n then some true else if n ≤ x then some false else none
  | .leq => if (y : Int) ≤ n then some true else if n < x then some false else none
  | .gtr => if n < x then some true else if (y : Int) ≤ n then some false else none
  | .geq => if n ≤ x then some true else if (y : Int) < n then some false else none
  | .eql => if n < x ∨ (y : Int) < n then some false else none
  | .neq => if n < x ∨ (y : Int) < n then some true else none
  | _ => none

def aBin (P : Program) (op : BinOp) (t : TypeId) (x y : Operand) (a b : Value) (h : AHeap) : Option Value :=
  match a, b with
  | .int k m, .int k' n => match op with
    | .shl | .shr => statG P (binOp op t a b)
    | _ => match decide (k = k') with
      | true => statG P (match op with
        | .add | .sub | .mul => Op.intArith op k m n
        | .quo | .rem => Op.intDiv op k m n
        | .and | .or | .xor | .andNot => Op.intBits op k m n
        | _ => Op.intCmp op m n)
      | false => none
  | .complex k x y, .int k' n => match decide (rngKind k = k') with
    | true => match aRng op x y n with
      | some r => some (.bool r)
      | none => none
    | false => none
  | _, _ => match gr a && gr b with
    | true => match stat P (eqGuard op t x y a b) with
      | some _ => statG P (binOp op t a b)
      | none => none
    | false => match op with
      | .eql => match aEqual P t a b h with | some r => some (.bool r) | none => none
      | .neq => match aEqual P t a b h with | some r => some (.bool !r) | none => none
      | _ => none

def aLen (P : Program) (argTypes : Array TypeId) (args : Array Value) (h : AHeap) : Option Value :=
  match argTypes[0]?, args[0]? with
  | some t, some x => match P.underlying t, x with
    | some .string, .string s => some (.int .i64 s.size)
    | some (.array n _), _ => some (.int .i64 n)
    | some (.pointer arr), _ => match P.underlying arr with
      | some (.array n _) => some (.int .i64 n)
      | _ => none
    | some (.slice _), .slice _ n _ => some (.int .i64 n)
    | some (.map _ _), .map none => some (.int .i64 0)
    | some (.map _ _), .map (some r) => match h.get r with
      | some (.map es _ _) => some (.int .i64 es.length)
      | _ => none
    | _, _ => none
  | _, _ => none

def aCap (P : Program) (argTypes : Array TypeId) (args : Array Value) (h : AHeap) : Option Value :=
  match argTypes[0]?, args[0]? with
  | some t, some x => match P.underlying t, x with
    | some (.slice _), .slice none _ cap => some (.int .i64 cap)
    | some (.slice _), .slice (some ⟨b, o, none⟩) _ cap => match h.get b with
      | some (.cells bn _ _ _ opn sz) => match openEnd bn opn sz o cap with
        | true => none
        | false => some (.int .i64 cap)
      | _ => none
    | _, _ => none
  | _, _ => none

def aClear (P : Program) (argTypes : Array TypeId) (args : Array Value) (h : AHeap) : Option ARes :=
  match argTypes[0]?, args[0]? with
  | some t, some (Value.map (some r)) => match P.underlying t, h.get r with
    | some _, some (.map _ clock false) => some (.val (.tuple #[]) (some (h.put r (.map [] clock false))))
    | _, _ => none
  | some t, some (Value.slice (some ⟨b, o, none⟩) n _) => match P.underlying t with
    | some (.slice elem) => match zeroOf P elem, h.get b with
      | some z, some (.cells bn tr el false opn sz) =>
        let cs := (Builtin.zeroCells z.cells n).toList
        match Nat.ble (o + cs.length) bn && Nat.ble 1 n && cs.all single with
        | true => some (.val (.tuple #[]) (some (h.put b (.cells bn (tr.fill o cs) el false opn sz))))
        | false => none
      | _, _ => none
    | _ => none
  | _, _ => none

def aBuiltin (E : Env) (b : Builtin) (argTypes : Array TypeId) (args : Array Value) (h : AHeap) : Option ARes :=
  match b with
  | .append => aAppend E.P argTypes args h
  | .copy => aCopy E.P argTypes args h
  | .len => keep (aLen E.P argTypes args h)
  | .cap => keep (aCap E.P argTypes args h)
  | .min => match args.toList.all gr with | true => keep (statG E.P (Builtin.min_ argTypes 0 args)) | false => none
  | .max => match args.toList.all gr with | true => keep (statG E.P (Builtin.max_ argTypes 0 args)) | false => none
  | .delete => aDelete E.P argTypes args h
  | .clear => aClear E.P argTypes args h
  | _ => none

def aCallee (E : Env) (g : FuncId) (args : Array Value) (h : AHeap) : Option ARes :=
  match E.clones g with
  | true => match args.toList with
    | [.iface t (.map (some r))] => match h.get r with
      | some (.map es clock _) => some (.val (.iface t (.map (some h.next))) (some (h.add (.map es clock false))))
      | _ => none
    | _ => none
  | false => some (.enter g args)

/-- The method of a type: found at once, its receiver as the interface value holds it. -/
def aMethod (P : Program) (t : TypeId) (name : String) : Option FuncId :=
  match P.info? t, P.underlying t with
  | some i, some u => match i.methods.find? (·.name == name) with
    | some m => match m.path.toList, m.func, u with
      | [], some (f, true), .pointer _ => some f
      | [], some (_, false), .pointer _ => none
      | [], some (f, false), _ => some f
      | _, _, _ => none
    | none => none
  | _, _ => none

def aCall (E : Env) (c : Call) (ev : Operand → Option Value) (h : AHeap) : Option ARes :=
  match evs ev c.args.toList with
  | none => none
  | some args => match c.callee with
    | .builtin b => aBuiltin E b c.argTypes args.toArray h
    | .invoke recv name => match ev recv with
      | some (.iface t v) => match aMethod E.P t name with
        | some g => aCallee E g (#[v] ++ args.toArray) h
        | none => none
      | _ => none
    | .value f => match ev f with
      | some (.func (.func g) first captured) => aCallee E g (first ++ args.toArray ++ captured) h
      | some (.func (.yield l) first _) => some (.round l (first ++ args.toArray))
      | _ => none

def aMakeSlice (P : Program) (t : TypeId) (len cap : Value) (h : AHeap) : Option ARes :=
  match P.underlying t, len, cap with
  | some (.slice elem), .int _ l, .int _ c => match P.info? elem, zeroOf P elem with
    | some i, some z =>
      if 0 ≤ l ∧ l ≤ c ∧ c ≤ 2147483648 ∧ i.bytes ≤ 4096 ∧ 0 < i.size ∧ z.cells.size = i.size ∧ z.cells.toList.all single = true then
        some (.val (.slice (some ⟨h.next, 0, none⟩) l.toNat c.toNat) (some (h.add (mkCells elem (Builtin.zeroCells z.cells c.toNat).toList))))
      else none
    | _, _ => none
  | _, _, _ => none

def aBuildSlice (P : Program) (t : TypeId) (len : Nat) (ps : List (Nat × Value)) (h : AHeap) : Option ARes :=
  match P.underlying t with
  | some (.slice elem) => match sizeAt P elem, zeroOf P elem with
    | some size, some z =>
      match Nat.ble (len * size) 65536 with
      | false => none
      | true =>
        match Instr.fill (fun i => some (i * size, size)) ((Array.range (len * size)).map ((if len * size = 0 then #[] else z.cells)[· % (if len * size = 0 then #[] else z.cells).size]!)) ps with
        | none => none
        | some cells => match cells.toList.all single with
          | true => some (.val (.slice (some ⟨h.next, 0, none⟩) len len) (some (h.add (mkCells elem cells.toList))))
          | false => none
    | _, _ => none
  | _ => none

/-- One operation. -/
def aop (E : Env) (o : Oper) (ev : Operand → Option Value) (h : AHeap) : Option ARes :=
  match o.op with
  | .move x | .assign x => keep (ev x)
  | .pick c a b => match ev c with
    | some (.bool true) => keep (ev a)
    | some (.bool false) => keep (ev b)
    | _ => none
  | .alloc elem => match zeroOf E.P elem with
    | some z => aNew elem z.cells.toList h
    | none => none
  | .box elem x => match ev x with
    | some v => aNew elem v.cells.toList h
    | none => none
  | .build t parts => match evParts ev parts.toList with
    | some ps => keep (aBuild E.P t ps)
    | none => none
  | .buildSlice t len parts => match evParts ev parts.toList with
    | some ps => aBuildSlice E.P t len ps h
    | none => none
  | .load t a => match ev a with
    | some (.pointer (some ⟨b, o, none⟩)) => keep (aLoad E.P t b o h)
    | _ => none
  | .store t a x => match ev a, ev x with
    | some (.pointer (some ⟨b, o, none⟩)), some v => match aStore E.P t b o v h with
      | some h' => some (.val undef (some h'))
      | none => none
    | _, _ => none
  | .nilCheck x => match ev x with
    | some (.pointer (some a)) => some (.val (.pointer (some a)) none)
    | some (.func (.func f) a c) => some (.val (.func (.func f) a c) none)
    | some (.func (.yield f) a c) => some (.val (.func (.yield f) a c) none)
    | _ => none
  | .binOp op t x y _ => match ev x, ev y with
    | some a, some b => keep (aBin E.P op t x y a b h)
    | _, _ => none
  | .unOp op _ x => match ev x with
    | some v => match gr v with | true => keep (statG E.P (Op.unary op v)) | false => none
    | none => none
  | .convert s d x => match ev x with
    | some v => match gr v with | true => keep (statG E.P (convert s d v)) | false => none
    | none => none
  | .makeInterface t x => match ev x, E.P.underlying t with
    | some _, some (.interface _) => none
    | some v, some _ => some (.val (.iface t v) none)
    | _, _ => none
  | .makeFunc fn first captured => match fn, evs ev first.toList, evs ev captured.toList with
    | .func f, some a, some c => some (.val (.func (.func f) a.toArray c.toArray) none)
    | _, _, _ => none
  | .makeMap t r => match (match r with
      | none => true
      | some x => match ev x, E.P.underlying t with | some (.int _ _), some (.map _ _) => true | _, _ => false) with
    | true => some (.val (.map (some h.next)) (some (h.add (.map [] 0 false))))
    | false => none
  | .makeSlice t l c => match ev l, ev c with
    | some l, some c => aMakeSlice E.P t l c h
    | _, _ => none
  | .slice t x lo hi mx => match ev x, evOpt ev lo, evOpt ev hi, evOpt ev mx with
    | some v, some a, some b, some c => aSlice E.P t v a b c h
    | _, _, _, _ => none
  | .fieldAddr s x i => match ev x, E.P.underlying s with
    | some (.pointer (some ⟨b, o, none⟩)), some (.struct fields) => match fields[i]? with
      | some f => match sizeAt E.P f.type with
        | some (_ + 1) => some (.val (.pointer (some ⟨b, o + f.offset, none⟩)) none)
        | _ => none
      | none => none
    | _, _ => none
  | .field t x i => match ev x, E.P.underlying t with
    | some (.agg cs), some (.struct fields) => match fields[i]? with
      | some f => keep (aPart E.P f.type cs f.offset)
      | none => none
    | _, _ => none
  | .indexAddr t x ix => match ev x, ev ix, E.P.underlying t with
    | some (.pointer (some ⟨b, o, none⟩)), some (.int _ i), some (.array len elem) => match sizeAt E.P elem with
      | some size => if 0 ≤ i ∧ i < len then some (.val (.pointer (some ⟨b, o + i.toNat * size, none⟩)) none) else none
      | none => none
    | some (.slice (some ⟨b, o, none⟩) len _), some (.int _ i), some (.slice elem) => match sizeAt E.P elem with
      | some size => if 0 ≤ i ∧ i < len then some (.val (.pointer (some ⟨b, o + i.toNat * size, none⟩)) none) else none
      | none => none
    | _, _, _ => none
  | .index t x ix => match ev x, ev ix, E.P.underlying t with
    | some (.agg cs), some (.int _ i), some (.array len elem) => match sizeAt E.P elem with
      | some size => if 0 ≤ i ∧ i < len then keep (aPart E.P elem cs (i.toNat * size)) else none
      | none => none
    | some (.string s), some (.int _ i), some .string => if 0 ≤ i then (match s[i.toNat]? with | some b => some (.val (.int .u8 b.toNat) none) | none => none) else none
    | _, _, _ => none
  | .lookup t x k ok => match ev x, ev k with
    | some m, some k => keep (aLookup E.P t m k ok h)
    | _, _ => none
  | .mapUpdate t m k x | .insert t m k x => match ev m, ev k, ev x with
    | some m, some k, some v => match aUpdate E.P t m k v h with
      | some h' => some (.val undef (some h'))
      | none => none
    | _, _, _ => none
  | .mapEntry t m k => match ev m, ev k with
    | some m, some k => aEntryOf E.P t m k h
    | _, _ => none
  | .entryStore _ m s x => match ev m, ev s, ev x with
    | some m, some s, some v => match aEntryStore m s v h with
      | some h' => some (.val undef (some h'))
      | none => none
    | _, _, _ => none
  | .range t x => match ev x with
    | some v => aRange E.P t v h
    | none => none
  | .next it s => match ev it with
    | some v => aNext v s h
    | none => none
  | .entry it => match ev it with
    | some v => keep (aEntry v h)
    | none => none
  | .typeAssert x _ asserted ok => match ev x with
    | some v => keep (aAssert E.P v asserted ok)
    | none => none
  | .extract t i => match ev t with
    | some (.tuple vs) => keep vs[i]?
    | _ => none
  | .call c => aCall E c ev h
  | _ => none
end
end Go.Abs
end
section
/-! The abstract evaluator: code, calls, loops over functions. -/
namespace Go.Abs
noncomputable section

inductive AExit where
  | normal
  | exit (id : Nat)
  | goto (l : Nat)
  | ret

abbrev CodeRes := Option (AExit × ATmps × List Nat × AHeap)

structure Rec where
  code : FuncId → Option Nat → Code → ATmps → List Nat → AHeap → CodeRes
  rounds : FuncId → Option Nat → Code → ATmps → List Nat → AHeap → CodeRes
  call : FuncId → Array Value → AHeap → Option (Value × AHeap)

def aeval (P : Program) (t : ATmps) : Operand → Option Value
  | .tmp i => some (t.get i)
  | .const v => match gr v with | true => some v | false => none
  | .global g => match Nat.ble (g + 1) P.globals.size with | true => some (.pointer (some ⟨g, 0, none⟩)) | false => none
  | .func f => some (.func (.func f) #[] #[])

/-- Is an operation wanted? none: its guard is not known. -/
def awanted (ops : Array Oper) (t : ATmps) (o : Oper) : Option Bool := match o.guard with
  | none => some true
  | some (j, want) => match (ops[j]?).bind (·.dst) with
    | none => some false
    | some d => match t.get d with
      | .bool b => some (b == want)
      | .tuple _ => some false
      | _ => none

def jumpOf : AExit → Option Code
  | .normal => none
  | .ret => some .ret
  | .exit id => some (.exit id)
  | .goto l => some (.goto l)

def setParams : List Tmp → List Value → ATmps → ATmps
  | p :: ps, v :: vs, t => setParams ps vs (t.set p v)
  | _, _, t => t

section
variable (r : Rec) (E : Env)

def aRound (l : Nat) (args : Array Value) (h : AHeap) : Option (Value × AHeap) :=
  match h.get l with
  | some (.loop a) => match Nat.beq args.toList.length a.params.toList.length with
    | false => none
    | true => match r.code a.fn (some l) a.assign (setParams a.params.toList args.toList a.tmps) [] h with
      | some (.normal, t1, [], h1) => match h1.get l with
        | some (.loop a1) => match a1.state with
          | .ready => match r.code a.fn (some l) a.body t1 [] (h1.put l (.loop { a1 with state := .busy })) with
            | some (e, _, _, h2) => match h2.get l with
              | some (.loop a2) => some (.bool (jumpOf e).isNone, h2.put l (.loop { a2 with state := if (jumpOf e).isNone then .ready else .done, pending := jumpOf e }))
              | _ => none
            | none => none
          | _ => none
        | _ => none
      | _ => none
  | _ => none

def aDo (x : Option ARes) (h : AHeap) : Option (Value × AHeap) :=
  match x with
  | some (.val v none) => some (v, h)
  | some (.val v (some h')) => some (v, h')
  | some (.enter g args) => r.call g args h
  | some (.round l args) => aRound r l args h
  | none => none

def aOps (ops : Array Oper) : List Oper → ATmps → AHeap → Option (ATmps × AHeap)
  | [], t, h => some (t, h)
  | o :: rest, t, h => match awanted ops t o with
    | none => none
    | some true => match aDo r (aop E o (aeval E.P t) h) h with
      | some (v, h') => aOps ops rest (t.put o.dst v) h'
      | none => none
    | some false => aOps ops rest (t.put o.dst undef) h

/-- 0: looks at most; 1: makes a block; 2: all else. -/
def opKind : Op → Nat
  | .move _ | .assign _ | .pick .. | .build .. | .load .. | .nilCheck _ | .binOp .. | .unOp .. | .convert .. | .makeInterface .. | .makeFunc .. | .slice .. | .fieldAddr .. | .field ..
  | .indexAddr .. | .index .. | .lookup .. | .entry _ | .typeAssert .. | .extract .. => 0
  | .call { callee := .builtin .len, .. } | .call { callee := .builtin .cap, .. } | .call { callee := .builtin .min, .. } | .call { callee := .builtin .max, .. } => 0
  | .alloc _ | .box .. | .buildSlice .. | .makeSlice .. | .makeMap .. => 1
  | _ => 2

def veqL (f : Value → Value → Bool) : List Value → List Value → Bool
  | [], [] => true
  | a :: as, b :: bs => f a b && veqL f as bs
  | _, _ => false
def veq : Nat → Value → Value → Bool
  | _, .bool a, .bool b => decide (a = b)
  | _, .int j a, .int k b => decide (j = k) && decide (a = b)
  | _, .complex j a b, .complex k c d => decide (j = k) && decide (a = c) && decide (b = d)
  | _, .string a, .string b => decide (a = b)
  | _, .pointer a, .pointer b => decide (a = b)
  | _, .slice a l c, .slice b m d => decide (a = b) && Nat.beq l m && Nat.beq c d
  | _, .map a, .map b => decide (a = b)
  | _, .nilFunc, .nilFunc => true
  | _, .nilIface, .nilIface => true
  | n + 1, .iface t v, .iface u w => Nat.beq t u && veq n v w
  | n + 1, .agg a, .agg b => veqL (veq n) a.toList b.toList
  | n + 1, .tuple a, .tuple b => veqL (veq n) a.toList b.toList
  | n + 1, .func f a c, .func g b d => decide (f = g) && veqL (veq n) a.toList b.toList && veqL (veq n) c.toList d.toList
  | _, _, _ => false

def effects (ops : Array Oper) : List Nat := (List.range ops.size).filter fun i => Nat.beq (opKind (ops.getD i default).op) 2

/-- For each operation the set of those that come before it, as a number. -/
def bits (ops : Array Oper) : List Nat := CheckFast.beforeL ops.toList 0 []

def canonGo (n : Nat) (b : List Nat) : List Nat → Nat → List Nat
  | [], done => (List.range n).filter fun i => !done.testBit i
  | e :: es, done =>
    let m := b.getD e 0 ||| 2 ^ e
    ((List.range n).filter fun i => m.testBit i && !done.testBit i) ++ canonGo n b es (done ||| m)
/-- The order in which the evaluator goes through a region that draws: each effect as early, all else as late as the edges allow. -/
def canon (ops : Array Oper) (b : List Nat) : List Nat := canonGo ops.size b (effects ops) 0

/-- Who writes a slot, and who else names it, stand in an order. -/
def slotsOK (ops : Array Oper) (b : List Nat) : Bool :=
  ops.toList.zipIdx.all fun (o, j) => ops.toList.zipIdx.all fun (o', i) => match o'.dst with
    | none => true
    | some d => Nat.beq i j || !((o.dst.toList ++ o.looksAt ops).any (Nat.beq d)) || (b.getD i 0).testBit j || (b.getD j 0).testBit i

def aDraw (ops : Array Oper) (b : List Nat) : List Nat → Nat → ATmps → AHeap → List (Nat × AHeap) → Option (ATmps × AHeap)
  | [], done, t, h, _ => match Nat.beq done (2 ^ ops.size - 1) with
    | true => some (t, h)
    | false => none
  | i :: rest, done, t, h, pre => match ops[i]? with
    | none => none
    | some o => match Nat.beq (b.getD i 0 &&& done) (b.getD i 0) && !done.testBit i with
      | false => none
      | true => match awanted ops t o with
        | none => none
        | some false => aDraw ops b rest (done ||| 2 ^ i) (t.put o.dst undef) h pre
        | some true => match opKind o.op with
          | 0 => match aop E o (aeval E.P t) h with
            | some (.val v none) =>
              match pre.all fun (k, hk) => (b.getD i 0).testBit k || (match aop E o (aeval E.P t) hk with | some (.val v' none) => veq 6 v v' | _ => false) with
              | true => aDraw ops b rest (done ||| 2 ^ i) (t.put o.dst v) h pre
              | false => none
            | _ => none
          | 1 => match aop E o (aeval E.P t) h with
            | some (.val v (some h')) => aDraw ops b rest (done ||| 2 ^ i) (t.put o.dst v) h' pre
            | _ => none
          | _ => match Nat.beq done (b.getD i 0) with
            | true => match aDo r (aop E o (aeval E.P t) h) h with
              | some (v, h') => aDraw ops b rest (done ||| 2 ^ i) (t.put o.dst v) h' ((i, h) :: pre)
              | none => none
            | false => none

def aTake : List Nat → AHeap → Option AHeap
  | [], h => some h
  | D :: ds, h => match h.get D with
    | some (.deferred true) => aTake ds (h.del D)
    | _ => none

def aResult (t : ATmps) (h : AHeap) : List ResultVar → Option (List Value)
  | [] => some []
  | .tmp i :: rs => match aResult t h rs with
    | some vs => some (t.get i :: vs)
    | none => none
  | .cell a ty :: rs => match t.get a with
    | .pointer (some ⟨b, o, none⟩) => match aLoad E.P ty b o h, aResult t h rs with
      | some v, some vs => some (v :: vs)
      | _, _ => none
    | _ => none

def one : List Value → Value
  | [v] => v
  | vs => .tuple vs.toArray

def aRangeFunc (f : FuncId) (ro : Option Nat) (g : Operand) (ps : Array Tmp) (assign body : Code) (t : ATmps) (d : List Nat) (h : AHeap) : CodeRes :=
  match aeval E.P t g with
  | some (.func (.func gf) first captured) =>
    match E.clones gf with
    | true => none
    | false =>
      match (match ro with
        | none => some (h.next, h.next :: d, h.add (.deferred true))
        | some l0 => match h.get l0 with | some (.loop a) => some (a.defers, d, h) | _ => none) with
      | none => none
      | some (D, d', h0) =>
        let l := h0.next
        let h1 := h0.add (.loop { state := .ready, pending := none, fn := f, tmps := t, params := ps, assign, body, defers := D })
        match r.call gf (first ++ #[.func (.yield l) #[] #[]] ++ captured) h1 with
        | none => none
        | some (_, h2) => match h2.get l with
          | some (.loop a) => match a.state with
            | .busy => none
            | _ => match a.pending with
              | none => some (.normal, t, d', h2.del l)
              | some .ret => some (.ret, t, d', h2.del l)
              | some (.exit id) => some (.exit id, t, d', h2.del l)
              | some _ => none
          | _ => none
  | _ => none

def step : Rec where
  code f ro c t d h := match c with
    | .skip | .label _ => some (.normal, t, d, h)
    | .region _ ops false => match aOps r E ops ops.toList t h with
      | some (t', h') => some (.normal, t', d, h')
      | none => none
    | .region _ ops true => match bits ops with
      | b => match slotsOK ops b with
        | true => match aDraw r E ops b (canon ops b) 0 t h [] with
          | some (t', h') => some (.normal, t', d, h')
          | none => none
        | false => none
    | .seq a b => match r.code f ro a t d h with
      | some (.normal, t1, d1, h1) => r.code f ro b t1 d1 h1
      | x => x
    | .cond c a b => match aeval E.P t c with
      | some (.bool true) => r.code f ro a t d h
      | some (.bool false) => r.code f ro b t d h
      | _ => none
    | .block id b => match r.code f ro b t d h with
      | some (.exit k, t1, d1, h1) => match Nat.beq k id with
        | true => some (.normal, t1, d1, h1)
        | false => some (.exit k, t1, d1, h1)
      | x => x
    | .loop b => r.rounds f ro b t d h
    | .exit id => some (.exit id, t, d, h)
    | .ret => some (.ret, t, d, h)
    | .rangeFunc g ps assign body => aRangeFunc r E f ro g ps assign body t d h
    | .scope _ | .goto _ | .refuse _ => none
  rounds f ro b t d h := match r.code f ro b t d h with
    | some (.normal, t1, d1, h1) => r.rounds f ro b t1 d1 h1
    | x => x
  call g args h := match E.P.funcs[g]? with
    | none => none
    | some fn => match fn.body with
      | none => none
      | some c => match r.code g none c (ATmps.enter args.toList fn.ntmps) [] h with
        | some (.normal, t, d, h1) | some (.ret, t, d, h1) => match aTake d h1 with
          | none => none
          | some h2 => match aResult E t h2 fn.results.toList with
            | some vs => some (one vs, h2)
            | none => none
        | _ => none
end

def ev (E : Env) : Nat → Rec
  | 0 => { code := fun _ _ _ _ _ _ => none, rounds := fun _ _ _ _ _ _ => none, call := fun _ _ _ => none }
  | n + 1 => step (ev E n) E
end
end Go.Abs
end
