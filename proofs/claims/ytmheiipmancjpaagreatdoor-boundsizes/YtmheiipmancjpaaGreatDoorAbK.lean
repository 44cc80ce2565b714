/- Proved here: the evaluator over tries of the program's types and functions is sound (evQ_ok). By an AI agent. -/
import Derived.Test.YtmheiipmancjpaaGreatDoorAbJ
set_option linter.unusedVariables false
set_option linter.unusedSimpArgs false
set_option linter.unusedVariables false
/-! The evaluator over tables of the program that are quick to look into. -/
namespace Go.Abs
noncomputable section

structure QV where
  P : Program
  info : TypeId → Option TypeInfo
  und : TypeId → Option TypeDesc
  fn : Nat → Option Func
  clones : FuncId → Bool

def qzeroOf (V : QV) (t : TypeId) : Option Value := match V.info t with
  | some i => match i.zero with
    | some z => match gr z with | true => some z | false => none
    | none => none
  | none => none

def qsizeAt (V : QV) (t : TypeId) : Option Nat := match V.info t with | some i => some i.size | none => none

def qpartF (V : QV) (t : TypeId) (cs : List Value) (off : Nat) : Option Value :=
  match V.und t with
  | some u => match aggU u with
    | true => match qsizeAt V t with
      | some n => some (.agg ⟨takeL (dropF cs off) n⟩)
      | none => none
    | false => nthL cs off
  | none => none

def qPart (V : QV) (t : TypeId) (cs : Array Value) (off : Nat) : Option Value :=
  match V.und t with
  | some u => match aggU u with
    | true => match qsizeAt V t with
      | some n => some (.agg (cs.extract off (off + n)))
      | none => none
    | false => cs[off]?
  | none => none

def qPlaces (V : QV) : List Field → Option (List (Nat × Nat))
  | [] => some []
  | f :: fs => match qsizeAt V f.type, qPlaces V fs with
    | some n, some ps => some ((f.offset, n) :: ps)
    | _, _ => none

def qbuildF (V : QV) (t : TypeId) (ps : List (Nat × Value)) : Option Value :=
  match qzeroOf V t, V.und t with
  | some z, some (.struct fields) => match qPlaces V fields.toList with
    | some pl => someL (fillL (nthL pl) z.cells.toList ps)
    | none => none
  | some z, some (.array _ elem) => match qsizeAt V elem with
    | some size => someL (fillL (fun i => some (i * size, size)) z.cells.toList ps)
    | none => none
  | _, _ => none

def qLoad (V : QV) (t : TypeId) (b o : Nat) (h : AHeap) : Option Value :=
  match V.und t, h.get b with
  | some u, some (.cells n tr _ _ _ _) =>
    match aggU u with
    | true => match qsizeAt V t with
      | some sz => match Nat.ble (o + sz) n with
        | true => match tr.take o sz with
          | some l => some (.agg l.toArray)
          | none => none
        | false => none
      | none => none
    | false => match Nat.ble (o + 1) n with
      | true => tr.get o
      | false => none
  | _, _ => none

def qStore (V : QV) (t : TypeId) (b o : Nat) (v : Value) (h : AHeap) : Option AHeap :=
  match h.get b, qsizeAt V t with
  | some (.cells n tr elem false opn sz), some size =>
    match Nat.beq v.cells.toList.length size && Nat.ble (o + size) n && v.cells.toList.all single with
    | true => some (h.put b (.cells n (tr.fill o v.cells.toList) elem false opn sz))
    | false => none
  | _, _ => none

def qSlice (V : QV) (t : TypeId) (x : Value) (low high mx : Option Value) (h : AHeap) : Option ARes :=
  match V.und t, x with
  | some .string, .string s => match mx with
    | some _ => none
    | none => match aBounds s.size s.size low high none with
      | some (l, k, _) => some (.val (.string (s.extract l k)) none)
      | none => none
  | some (.array n elem), .pointer (some ⟨b, o, none⟩) =>
    match aBounds n n low high mx, qsizeAt V elem, h.get b with
    | some (l, k, m), some size, some (.cells bn _ _ _ opn sz) =>
      let o' := if m = l then o else o + l * size
      match openEnd bn opn sz o' (m - l) with
      | true => some (.val top none)
      | false => some (.val (.slice (some ⟨b, o', none⟩) (k - l) (m - l)) none)
    | _, _, _ => none
  | some (.slice elem), .slice none len cap => match aBounds len cap low high mx, qsizeAt V elem with
    | some (l, k, m), some _ => some (.val (.slice none (k - l) (m - l)) none)
    | _, _ => none
  | some (.slice elem), .slice (some ⟨b, o, none⟩) len cap =>
    match aBounds len cap low high mx, qsizeAt V elem, h.get b with
    | some (l, k, m), some size, some (.cells bn _ _ _ opn sz) =>
      match openEnd bn opn sz o cap with
      | false =>
        let o' := if m = l then o else o + l * size
        match openEnd bn opn sz o' (m - l) with
        | true => some (.val top none)
        | false => some (.val (.slice (some ⟨b, o', none⟩) (k - l) (m - l)) none)
      | true => match Nat.beq size sz && Nat.ble 1 sz with
        | false => none
        | true => match mx with
          | some _ =>
            let o' := if m = l then o else o + l * size
            match openEnd bn opn sz o' (m - l) with
            | true => some (.val top none)
            | false => some (.val (.slice (some ⟨b, o', none⟩) (k - l) (m - l)) none)
          | none => match Nat.ble (l + 1) cap with
            | true => some (.val (.slice (some ⟨b, o + l * size, none⟩) (k - l) (cap - l)) none)
            | false => match Nat.beq l cap && Nat.beq k l with
              | true => some (.val (.slice (some ⟨b, o + l * size, some 0⟩) 0 0) none)
              | false => none
    | _, _, _ => none
  | some (.pointer arr), .pointer (some ⟨b, o, none⟩) => match V.und arr with
    | some (.array n elem) => match aBounds n n low high mx, qsizeAt V elem, h.get b with
      | some (l, k, m), some size, some (.cells bn _ _ _ opn sz) =>
        let o' := if m = l then o else o + l * size
        match openEnd bn opn sz o' (m - l) with
        | true => some (.val top none)
        | false => some (.val (.slice (some ⟨b, o', none⟩) (k - l) (m - l)) none)
      | _, _, _ => none
    | _ => none
  | _, _ => none

def qzeroFits (V : QV) (t : TypeId) (n : Nat) : Bool := match qzeroOf V t with | some z => Nat.beq z.cells.size n | none => false

def qAppend (V : QV) (argTypes : Array TypeId) (args : Array Value) (h : AHeap) : Option ARes :=
  match argTypes[0]?, argTypes[1]?, args[0]?, args[1]? with
  | some sType, some xType, some (Value.slice base len cap), some x =>
    match V.und sType, V.und xType with
    | some (.slice elem), some (.int _) =>
      -- 'append(s, make([]T, n)...)' behind a nil slice
      match V.info elem, qzeroOf V elem, base, x with
      | some i, some z, none, .int _ l =>
        if 0 < l ∧ l ≤ 2147483648 ∧ 1 ≤ i.size ∧ i.bytes ≤ 4096 ∧ len = 0 ∧ cap = 0 ∧ z.cells.size = i.size ∧ z.cells.toList.all single = true then
          some (.val (.slice (some ⟨h.next, 0, none⟩) l.toNat l.toNat) (some (h.add (mkOpen elem (Builtin.zeroCells z.cells l.toNat).toList i.size))))
        else none
      | _, _, _, _ => none
    | some (.slice elem), some ux =>
      match V.info elem, (match ux with | .slice _ | .string => aLenOf x | _ => none) with
      | some i, some n =>
        let need := len + n
        match Nat.ble 1 i.size && Nat.ble need 2147483648 && Nat.ble i.bytes 4096 && qzeroFits V elem i.size with
        | false => none
        | true => match aFirst i.size n x h with
          | none => none
          | some new => match base with
            | none => match Nat.ble need cap with
              | true => match Nat.beq n 0 with
                | true => some (.val (.slice none need cap) none)
                | false => none
              | false => match Nat.beq len 0 && Nat.beq new.length (need * i.size) with
                | true => some (.val (.slice (some ⟨h.next, 0, none⟩) need need) (some (h.add (mkOpen elem new i.size))))
                | false => none
            | some ⟨b, o, none⟩ => match h.get b with
              | some (.cells bn tr el ro opn sz) =>
                match Nat.ble need cap with
                | true => match ro || !(Nat.ble (o + need * i.size) bn) || !(Nat.beq new.length (n * i.size)) || !(new.all single) || (opn && Nat.beq sz 0) with
                  | true => none
                  | false => some (.val (.slice base need cap) (some (h.put b (.cells bn (tr.fill (o + len * i.size) new) el ro opn sz))))
                | false => match Nat.ble (o + len * i.size) bn with
                  | false => none
                  | true => match tr.take o (len * i.size) with
                    | none => none
                    | some old => match Nat.beq (old ++ new).length (need * i.size) with
                      | false => none
                      | true => match openEnd bn opn sz o cap with
                        | false => some (.val (.slice (some ⟨h.next, 0, none⟩) need need) (some (h.add (mkOpen elem (old ++ new) i.size))))
                        | true => match ro || !(Nat.beq sz i.size) || !(Nat.beq el elem) || !(new.all single) with
                          | true => none
                          | false =>
                            let h1 := h.del b
                            some (.val (.slice (some ⟨h1.next, 0, none⟩) need need) (some (h1.add (mkOpen elem (old ++ new) i.size))))
              | _ => none
            | some ⟨b, o, some k⟩ => match Nat.beq len 0 && Nat.beq cap 0 with
              | false => none
              | true => match Nat.beq n 0 && new.isEmpty with
                | true => some (.val (.slice (some ⟨b, o, some k⟩) 0 0) none)
                | false => match h.get b with
                  | some (.cells bn _ el false true sz) => match Nat.beq bn o && Nat.beq sz i.size && Nat.beq el elem && Nat.beq new.length (need * i.size) && new.all single with
                    | true =>
                      let h1 := h.del b
                      some (.val (.slice (some ⟨h1.next, 0, none⟩) need need) (some (h1.add (mkOpen elem new i.size))))
                    | false => none
                  | _ => none
      | _, _ => none
    | _, _ => none
  | _, _, _, _ => none

def qCopy (V : QV) (argTypes : Array TypeId) (args : Array Value) (h : AHeap) : Option ARes :=
  match argTypes[0]?, args[0]?, args[1]? with
  | some dType, some (Value.slice base dLen _), some src =>
    match V.und dType with
    | some (.slice elem) => match qsizeAt V elem, aLenOf src with
      | some size, some n0 =>
        let n := Nat.min n0 dLen
        match aFirst size n src h with
        | none => none
        | some cs => match base with
          | none => some (.val (.int .i64 n) none)
          | some ⟨b, o, none⟩ => match h.get b with
            | some (.cells bn tr el false opn sz) => match Nat.ble (o + cs.length) bn && cs.all single with
              | true => some (.val (.int .i64 n) (some (h.put b (.cells bn (tr.fill o cs) el false opn sz))))
              | false => none
            | _ => none
          | some ⟨_, _, some _⟩ => match cs with
            | [] => some (.val (.int .i64 n) none)
            | _ :: _ => none
      | _, _ => none
    | _ => none
  | _, _, _ => none

def qLookup (V : QV) (t : TypeId) (x k : Value) (ok : Bool) (h : AHeap) : Option Value :=
  match V.und t with
  | some (.map kt elem) =>
    match (match x with
      | .map none => some []
      | .map (some r) => match h.get r with
        | some (.map es _ _) => some es
        | _ => none
      | _ => none) with
    | none => none
    | some es => match stat V.P (Instr.checkKey es.isEmpty 10000 kt k), aFind V.P kt k es with
      | some _, some f =>
        match (match f with | some (_, v) => some (v, true) | none => match qzeroOf V elem with | some z => some (z, false) | none => none) with
        | some (v, b) => some (if ok then .tuple #[v, .bool b] else v)
        | none => none
      | _, _ => none
  | _ => none

def qUpdate (V : QV) (t : TypeId) (x k v : Value) (h : AHeap) : Option AHeap :=
  match V.und t, x with
  | some (.map kt _), .map (some r) => match h.get r with
    | some (.map es clock false) => match stat V.P (Instr.checkKey false 10000 kt k), aFind V.P kt k es with
      | some _, some (some (i, _)) => match aSameKey es i k with
        | true => some (h.put r (.map (es.modify i fun e => { e with key := k, val := v }) clock false))
        | false => none
      | some _, some none => some (h.put r (.map (es ++ [{ key := k, val := v, born := clock }]) (clock + 1) false))
      | _, _ => none
    | _ => none
  | _, _ => none

def qEntryOf (V : QV) (t : TypeId) (x k : Value) (h : AHeap) : Option ARes :=
  match V.und t, x with
  | some (.map kt elem), .map (some r) => match h.get r with
    | some (.map es clock false) => match stat V.P (Instr.checkKey false 10000 kt k), aFind V.P kt k es with
      | some _, some (some (i, v)) => match aSameKey es i k, es[i]? with
        | true, some e => some (.val (.tuple #[v, .int .i64 e.born]) (some (h.put r (.map (es.modify i fun e => { e with key := k }) clock false))))
        | _, _ => none
      | some _, some none => match qzeroOf V elem with
        | some z => some (.val (.tuple #[z, .int .i64 clock]) (some (h.put r (.map (es ++ [{ key := k, val := z, born := clock }]) (clock + 1) false))))
        | none => none
      | _, _ => none
    | _ => none
  | _, _ => none

def qDelete (V : QV) (argTypes : Array TypeId) (args : Array Value) (h : AHeap) : Option ARes :=
  match argTypes[0]?, args[0]?, args[1]? with
  | some t, some (Value.map (some r)), some k => match V.und t, h.get r with
    | some (.map kt _), some (.map es clock false) => match stat V.P (Instr.checkKey es.isEmpty 10000 kt k), aFind V.P kt k es with
      | some _, some (some (i, _)) => some (.val (.tuple #[]) (some (h.put r (.map (es.eraseIdx i) clock false))))
      | some _, some none => some (.val (.tuple #[]) (some (h.put r (.map es clock false))))
      | _, _ => none
    | _, _ => none
  | _, _, _ => none

def qRange (V : QV) (t : TypeId) (x : Value) (h : AHeap) : Option ARes :=
  let mk (o : AObj) : Option ARes := some (.val (.pointer (some ⟨h.next, 0, none⟩)) (some (h.add o)))
  match V.und t, x with
  | some .string, .string s => mk (.strIter s 0)
  | some (.map _ _), .map none => mk (.mapIter none 0 #[] 0)
  | some (.map _ _), .map (some r) => match h.get r with
    | some (.map _ clock _) => mk (.mapIter (some r) clock #[] clock)
    | _ => none
  | _, _ => none

def qAssert (V : QV) (x : Value) (asserted : TypeId) (ok : Bool) : Option Value :=
  match V.und asserted, x with
  | some (.interface _), _ => none
  | some _, .iface t v => match Nat.beq t asserted with
    | true => some (if ok then .tuple #[v, .bool true] else v)
    | false => match ok with
      | true => match qzeroOf V asserted with | some z => some (.tuple #[z, .bool false]) | none => none
      | false => none
  | some _, .nilIface => match ok with
    | true => match qzeroOf V asserted with | some z => some (.tuple #[z, .bool false]) | none => none
    | false => none
  | _, _ => none

def qEqual (V : QV) (t : TypeId) (x y : Value) (h : AHeap) : Option Bool :=
  match V.und t, x, y with
  | some (.pointer _), .pointer none, .pointer b => some b.isNone
  | some (.pointer _), .pointer _, .pointer none => some false
  | some (.pointer elem), .pointer (some ⟨a, o, none⟩), .pointer (some ⟨b, p, none⟩) => match qsizeAt V elem with
    | some (_ + 1) => match live h a && live h b with
      | true => match Nat.beq a b with
        | true => some (Nat.beq o p)
        | false => some false
      | false => none
    | _ => none
  | some (.slice _), .slice none _ _, .slice b _ _ => some b.isNone
  | some (.slice _), .slice _ _ _, .slice none _ _ => some false
  | some (.map _ _), .map none, .map b => some b.isNone
  | some (.map _ _), .map _, .map none => some false
  | some (.func _ _ _), .nilFunc, .nilFunc => some true
  | some (.func _ _ _), .nilFunc, .func _ _ _ => some false
  | some (.func _ _ _), .func _ _ _, .nilFunc => some false
  | some (.interface _), .nilIface, .iface _ _ => some false
  | some (.interface _), .iface _ _, .nilIface => some false
  | _, _, _ => none

def qBin (V : QV) (op : BinOp) (t : TypeId) (x y : Operand) (a b : Value) (h : AHeap) : Option Value :=
  match a, b with
  | .int k m, .int k' n => match op with
    | .shl | .shr => statG V.P (binOp op t a b)
    | _ => match decide (k = k') with
      | true => statG V.P (match op with
        | .add | .sub | .mul => Op.intArith op k m n
        | .quo | .rem => Op.intDiv op k m n
        | .and | .or | .xor | .andNot => Op.intBits op k m n
        | _ => Op.intCmp op m n)
      | false => none
  | .complex k x y, .int k' n => match decide (rngKind k = k') with
    | true => match aRng op x y n with
      | some r => some (.bool r)
      | none => none
    | false => none
  | _, _ => match gr a && gr b with
    | true => match stat V.P (eqGuard op t x y a b) with
      | some _ => statG V.P (binOp op t a b)
      | none => none
    | false => match op with
      | .eql => match qEqual V t a b h with | some r => some (.bool r) | none => none
      | .neq => match qEqual V t a b h with | some r => some (.bool !r) | none => none
      | _ => none

def qLen (V : QV) (argTypes : Array TypeId) (args : Array Value) (h : AHeap) : Option Value :=
  match argTypes[0]?, args[0]? with
  | some t, some x => match V.und t, x with
    | some .string, .string s => some (.int .i64 s.size)
    | some (.array n _), _ => some (.int .i64 n)
    | some (.pointer arr), _ => match V.und arr with
      | some (.array n _) => some (.int .i64 n)
      | _ => none
    | some (.slice _), .slice _ n _ => some (.int .i64 n)
    | some (.map _ _), .map none => some (.int .i64 0)
    | some (.map _ _), .map (some r) => match h.get r with
      | some (.map es _ _) => some (.int .i64 es.length)
      | _ => none
    | _, _ => none
  | _, _ => none

def qCap (V : QV) (argTypes : Array TypeId) (args : Array Value) (h : AHeap) : Option Value :=
  match argTypes[0]?, args[0]? with
  | some t, some x => match V.und t, x with
    | some (.slice _), .slice none _ cap => some (.int .i64 cap)
    | some (.slice _), .slice (some ⟨b, o, none⟩) _ cap => match h.get b with
      | some (.cells bn _ _ _ opn sz) => match openEnd bn opn sz o cap with
        | true => none
        | false => some (.int .i64 cap)
      | _ => none
    | _, _ => none
  | _, _ => none

def qClear (V : QV) (argTypes : Array TypeId) (args : Array Value) (h : AHeap) : Option ARes :=
  match argTypes[0]?, args[0]? with
  | some t, some (Value.map (some r)) => match V.und t, h.get r with
    | some _, some (.map _ clock false) => some (.val (.tuple #[]) (some (h.put r (.map [] clock false))))
    | _, _ => none
  | some t, some (Value.slice (some ⟨b, o, none⟩) n _) => match V.und t with
    | some (.slice elem) => match qzeroOf V elem, h.get b with
      | some z, some (.cells bn tr el false opn sz) =>
        let cs := (Builtin.zeroCells z.cells n).toList
        match Nat.ble (o + cs.length) bn && Nat.ble 1 n && cs.all single with
        | true => some (.val (.tuple #[]) (some (h.put b (.cells bn (tr.fill o cs) el false opn sz))))
        | false => none
      | _, _ => none
    | _ => none
  | _, _ => none

def qBuiltin (V : QV) (b : Builtin) (argTypes : Array TypeId) (args : Array Value) (h : AHeap) : Option ARes :=
  match b with
  | .append => qAppend V argTypes args h
  | .copy => qCopy V argTypes args h
  | .len => keep (qLen V argTypes args h)
  | .cap => keep (qCap V argTypes args h)
  | .min => match args.toList.all gr with | true => keep (statG V.P (Builtin.min_ argTypes 0 args)) | false => none
  | .max => match args.toList.all gr with | true => keep (statG V.P (Builtin.max_ argTypes 0 args)) | false => none
  | .delete => qDelete V argTypes args h
  | .clear => qClear V argTypes args h
  | _ => none

def qMethod (V : QV) (t : TypeId) (name : String) : Option FuncId :=
  match V.info t, V.und t with
  | some i, some u => match i.methods.find? (·.name == name) with
    | some m => match m.path.toList, m.func, u with
      | [], some (f, true), .pointer _ => some f
      | [], some (_, false), .pointer _ => none
      | [], some (f, false), _ => some f
      | _, _, _ => none
    | none => none
  | _, _ => none

def qCallee (V : QV) (g : FuncId) (args : Array Value) (h : AHeap) : Option ARes :=
  match V.clones g with
  | true => match args.toList with
    | [.iface t (.map (some r))] => match h.get r with
      | some (.map es clock _) => some (.val (.iface t (.map (some h.next))) (some (h.add (.map es clock false))))
      | _ => none
    | _ => none
  | false => some (.enter g args)

def qcallF (V : QV) (c : Call) (ev : Operand → Option Value) (h : AHeap) : Option ARes :=
  match evs ev c.args.toList with
  | none => none
  | some args => match c.callee with
    | .builtin b => qBuiltin V b c.argTypes ⟨args⟩ h
    | .invoke recv name => match ev recv with
      | some (.iface t v) => match qMethod V t name with
        | some g => qCallee V g ⟨v :: args⟩ h
        | none => none
      | _ => none
    | .value f => match ev f with
      | some (.func (.func g) first captured) => qCallee V g ⟨appL (appL first.toList args) captured.toList⟩ h
      | some (.func (.yield l) first _) => some (.round l ⟨appL first.toList args⟩)
      | _ => none

def qMakeSlice (V : QV) (t : TypeId) (len cap : Value) (h : AHeap) : Option ARes :=
  match V.und t, len, cap with
  | some (.slice elem), .int _ l, .int _ c => match V.info elem, qzeroOf V elem with
    | some i, some z =>
      if 0 ≤ l ∧ l ≤ c ∧ c ≤ 2147483648 ∧ i.bytes ≤ 4096 ∧ 0 < i.size ∧ z.cells.size = i.size ∧ z.cells.toList.all single = true then
        some (.val (.slice (some ⟨h.next, 0, none⟩) l.toNat c.toNat) (some (h.add (mkCells elem (Builtin.zeroCells z.cells c.toNat).toList))))
      else none
    | _, _ => none
  | _, _, _ => none

def qbuildSliceF (V : QV) (t : TypeId) (len : Nat) (ps : List (Nat × Value)) (h : AHeap) : Option ARes :=
  match V.und t with
  | some (.slice elem) => match qsizeAt V elem, qzeroOf V elem with
    | some size, some z =>
      match Nat.ble (len * size) 65536 with
      | false => none
      | true =>
        match fillL (fun i => some (i * size, size)) ((Array.range (len * size)).map ((if len * size = 0 then #[] else z.cells)[· % (if len * size = 0 then #[] else z.cells).size]!)).toList ps with
        | none => none
        | some cells => match cells.all single with
          | true => some (.val (.slice (some ⟨h.next, 0, none⟩) len len) (some (h.add (mkCells elem cells))))
          | false => none
    | _, _ => none
  | _ => none

def qopF (op : Op) : QV → (Operand → Option Value) → AHeap → Option ARes :=
  Op.casesOn (motive := fun _ => QV → (Operand → Option Value) → AHeap → Option ARes) op
    (fun x V ev h => keep (ev x))
    (fun x V ev h => keep (ev x))
    (fun c a b V ev h => match ev c with
    | some (.bool true) => keep (ev a)
    | some (.bool false) => keep (ev b)
    | _ => none)
    (fun elem V ev h => match qzeroOf V elem with
    | some z => aNew elem z.cells.toList h
    | none => none)
    (fun elem x V ev h => match ev x with
    | some v => aNew elem v.cells.toList h
    | none => none)
    (fun t parts V ev h => match evParts ev parts.toList with
    | some ps => keep (qbuildF V t ps)
    | none => none)
    (fun t len parts V ev h => match evParts ev parts.toList with
    | some ps => qbuildSliceF V t len ps h
    | none => none)
    (fun t m k x V ev h => match ev m, ev k, ev x with
    | some m, some k, some v => match qUpdate V t m k v h with
      | some h' => some (.val undef (some h'))
      | none => none
    | _, _, _ => none)
    (fun t a V ev h => match ev a with
    | some (.pointer (some ⟨b, o, none⟩)) => keep (qLoad V t b o h)
    | _ => none)
    (fun t a x V ev h => match ev a, ev x with
    | some (.pointer (some ⟨b, o, none⟩)), some v => match qStore V t b o v h with
      | some h' => some (.val undef (some h'))
      | none => none
    | _, _ => none)
    (fun _ _ _ _ => none)
    (fun _ _ _ _ => none)
    (fun x V ev h => match ev x with
    | some (.pointer (some a)) => some (.val (.pointer (some a)) none)
    | some (.func (.func f) a c) => some (.val (.func (.func f) a c) none)
    | some (.func (.yield f) a c) => some (.val (.func (.yield f) a c) none)
    | _ => none)
    (fun op t x y x4 V ev h => match ev x, ev y with
    | some a, some b => keep (qBin V op t x y a b h)
    | _, _ => none)
    (fun op x1 x V ev h => match ev x with
    | some v => match gr v with | true => keep (statG V.P (Op.unary op v)) | false => none
    | none => none)
    (fun s d x V ev h => match ev x with
    | some v => match gr v with | true => keep (statG V.P (convert s d v)) | false => none
    | none => none)
    (fun _ _ _ _ _ => none)
    (fun t x V ev h => match ev x, V.und t with
    | some _, some (.interface _) => none
    | some v, some _ => some (.val (.iface t v) none)
    | _, _ => none)
    (fun fn first captured V ev h => match fn, evs ev first.toList, evs ev captured.toList with
    | .func f, some a, some c => some (.val (.func (.func f) a.toArray c.toArray) none)
    | _, _, _ => none)
    (fun t r V ev h => match (match r with
      | none => true
      | some x => match ev x, V.und t with | some (.int _ _), some (.map _ _) => true | _, _ => false) with
    | true => some (.val (.map (some h.next)) (some (h.add (.map [] 0 false))))
    | false => none)
    (fun _ _ _ _ _ => none)
    (fun t l c V ev h => match ev l, ev c with
    | some l, some c => qMakeSlice V t l c h
    | _, _ => none)
    (fun t x lo hi mx V ev h => match ev x, evOpt ev lo, evOpt ev hi, evOpt ev mx with
    | some v, some a, some b, some c => qSlice V t v a b c h
    | _, _, _, _ => none)
    (fun s x i V ev h => match ev x, V.und s with
    | some (.pointer (some ⟨b, o, none⟩)), some (.struct fields) => match nthL fields.toList i with
      | some f => match qsizeAt V f.type with
        | some (_ + 1) => some (.val (.pointer (some ⟨b, o + f.offset, none⟩)) none)
        | _ => none
      | none => none
    | _, _ => none)
    (fun t x i V ev h => match ev x, V.und t with
    | some (.agg cs), some (.struct fields) => match nthL fields.toList i with
      | some f => keep (qpartF V f.type cs.toList f.offset)
      | none => none
    | _, _ => none)
    (fun t x ix V ev h => match ev x, ev ix, V.und t with
    | some (.pointer (some ⟨b, o, none⟩)), some (.int _ i), some (.array len elem) => match qsizeAt V elem with
      | some size => if 0 ≤ i ∧ i < len then some (.val (.pointer (some ⟨b, o + i.toNat * size, none⟩)) none) else none
      | none => none
    | some (.slice (some ⟨b, o, none⟩) len _), some (.int _ i), some (.slice elem) => match qsizeAt V elem with
      | some size => if 0 ≤ i ∧ i < len then some (.val (.pointer (some ⟨b, o + i.toNat * size, none⟩)) none) else none
      | none => none
    | _, _, _ => none)
    (fun t x ix V ev h => match ev x, ev ix, V.und t with
    | some (.agg cs), some (.int _ i), some (.array len elem) => match qsizeAt V elem with
      | some size => if 0 ≤ i ∧ i < len then keep (qPart V elem cs (i.toNat * size)) else none
      | none => none
    | some (.string s), some (.int _ i), some .string => if 0 ≤ i then (match s[i.toNat]? with | some b => some (.val (.int .u8 b.toNat) none) | none => none) else none
    | _, _, _ => none)
    (fun t x k ok V ev h => match ev x, ev k with
    | some m, some k => keep (qLookup V t m k ok h)
    | _, _ => none)
    (fun t m k x V ev h => match ev m, ev k, ev x with
    | some m, some k, some v => match qUpdate V t m k v h with
      | some h' => some (.val undef (some h'))
      | none => none
    | _, _, _ => none)
    (fun t m k V ev h => match ev m, ev k with
    | some m, some k => qEntryOf V t m k h
    | _, _ => none)
    (fun x0 m s x V ev h => match ev m, ev s, ev x with
    | some m, some s, some v => match aEntryStore m s v h with
      | some h' => some (.val undef (some h'))
      | none => none
    | _, _, _ => none)
    (fun t x V ev h => match ev x with
    | some v => qRange V t v h
    | none => none)
    (fun it s V ev h => match ev it with
    | some v => aNext v s h
    | none => none)
    (fun it V ev h => match ev it with
    | some v => keep (aEntry v h)
    | none => none)
    (fun x x1 asserted ok V ev h => match ev x with
    | some v => keep (qAssert V v asserted ok)
    | none => none)
    (fun t i V ev h => match ev t with
    | some (.tuple vs) => keep (nthL vs.toList i)
    | _ => none)
    (fun c V ev h => qcallF V c ev h)
    (fun _ _ _ _ => none)
    (fun _ _ _ _ => none)
    (fun _ _ _ _ => none)
    (fun _ _ _ _ _ => none)
    (fun _ _ _ _ _ _ => none)
    (fun _ _ _ _ _ => none)

def qevalF (V : QV) (t : ATmps) (x : Operand) : Option Value :=
  Operand.casesOn (motive := fun _ => Option Value) x (fun i => some (getF t i))
    (fun v => Bool.rec (motive := fun _ => Option Value) none (some v) (gr v))
    (fun g => Bool.rec (motive := fun _ => Option Value) none (some (.pointer (some ⟨g, 0, none⟩))) (Nat.ble (Nat.succ g) V.P.globals.size))
    (fun f => some (.func (.func f) #[] #[]))

section
variable (r : Rec) (V : QV)

def qRound (l : Nat) (args : Array Value) (h : AHeap) : Option (Value × AHeap) :=
  match h.get l with
  | some (.loop a) => match Nat.beq args.toList.length a.params.toList.length with
    | false => none
    | true => match r.code a.fn (some l) a.assign (setParams a.params.toList args.toList a.tmps) [] h with
      | some (.normal, t1, [], h1) => match h1.get l with
        | some (.loop a1) => match a1.state with
          | .ready => match r.code a.fn (some l) a.body t1 [] (h1.put l (.loop { a1 with state := .busy })) with
            | some (e, _, _, h2) => match h2.get l with
              | some (.loop a2) => some (.bool (jumpOf e).isNone, h2.put l (.loop { a2 with state := if (jumpOf e).isNone then .ready else .done, pending := jumpOf e }))
              | _ => none
            | none => none
          | _ => none
        | _ => none
      | _ => none
  | _ => none

def qDo (x : Option ARes) (h : AHeap) : Option (Value × AHeap) :=
  Option.rec (motive := fun _ => Option (Value × AHeap)) none
    (fun y => ARes.rec (motive := fun _ => Option (Value × AHeap))
      (fun v h' => Option.rec (motive := fun _ => Option (Value × AHeap)) (some (v, h)) (fun h' => some (v, h')) h')
      (fun g args => r.call g args h)
      (fun l args => qRound r l args h) y) x

def qWanted (ops : List Oper) (t : ATmps) (g : Option (Nat × Bool)) : Option Bool :=
  Option.rec (motive := fun _ => Option Bool) (some true) (fun p => match (nthL ops p.1).bind (·.dst) with
    | none => some false
    | some d => match t.get d with
      | .bool b => some (b == p.2)
      | .tuple _ => some false
      | _ => none) g

def opsQ (l : List Oper) : List Oper → ATmps → AHeap → Option (ATmps × AHeap) :=
  List.rec (motive := fun _ => List Oper → ATmps → AHeap → Option (ATmps × AHeap)) (fun _ t h => some (t, h))
    (fun o _ ih ops t h => Option.rec (motive := fun _ => Option (ATmps × AHeap)) none
      (fun w => Bool.rec (motive := fun _ => Option (ATmps × AHeap)) (ih ops (t.put o.dst undef) h)
        (Option.rec (motive := fun _ => Option (ATmps × AHeap)) none (fun p => Prod.rec (motive := fun _ => Option (ATmps × AHeap)) (fun v h' => ih ops (t.put o.dst v) h') p)
          (qDo r (qopF o.op V (qevalF V t) h) h)) w)
      (qWanted ops t o.guard)) l

def nthD (l : List Nat) (i : Nat) : Nat := List.rec (motive := fun _ => Nat → Nat) (fun _ => 0) (fun x _ ih i => Nat.rec (motive := fun _ => Nat) x (fun j _ => ih j) i) l i

def qDraw (ops : List Oper) (m : Nat) (b : List Nat) : List Nat → Nat → ATmps → AHeap → List (Nat × AHeap) → Option (ATmps × AHeap)
  | [], done, t, h, _ => match Nat.beq done m with
    | true => some (t, h)
    | false => none
  | i :: rest, done, t, h, pre => match nthL ops i with
    | none => none
    | some o => match Nat.beq (Nat.land (nthD b i) done) (nthD b i) && !done.testBit i with
      | false => none
      | true => match qWanted ops t o.guard with
        | none => none
        | some false => qDraw ops m b rest (Nat.lor done (Nat.pow 2 i)) (t.put o.dst undef) h pre
        | some true => match opKind o.op with
          | 0 => match qopF o.op V (qevalF V t) h with
            | some (.val v none) =>
              match pre.all fun (k, hk) => (nthD b i).testBit k || (match qopF o.op V (qevalF V t) hk with | some (.val v' none) => veq 6 v v' | _ => false) with
              | true => qDraw ops m b rest (Nat.lor done (Nat.pow 2 i)) (t.put o.dst v) h pre
              | false => none
            | _ => none
          | 1 => match qopF o.op V (qevalF V t) h with
            | some (.val v (some h')) => qDraw ops m b rest (Nat.lor done (Nat.pow 2 i)) (t.put o.dst v) h' pre
            | _ => none
          | _ => match Nat.beq done (nthD b i) with
            | true => match qDo r (qopF o.op V (qevalF V t) h) h with
              | some (v, h') => qDraw ops m b rest (Nat.lor done (Nat.pow 2 i)) (t.put o.dst v) h' ((i, h) :: pre)
              | none => none
            | false => none

def qResult (t : ATmps) (h : AHeap) : List ResultVar → Option (List Value)
  | [] => some []
  | .tmp i :: rs => match qResult t h rs with
    | some vs => some (t.get i :: vs)
    | none => none
  | .cell a ty :: rs => match t.get a with
    | .pointer (some ⟨b, o, none⟩) => match qLoad V ty b o h, qResult t h rs with
      | some v, some vs => some (v :: vs)
      | _, _ => none
    | _ => none

def qRangeFunc (f : FuncId) (ro : Option Nat) (g : Operand) (ps : Array Tmp) (assign body : Code) (t : ATmps) (d : List Nat) (h : AHeap) : CodeRes :=
  match qevalF V t g with
  | some (.func (.func gf) first captured) =>
    match V.clones gf with
    | true => none
    | false =>
      match (match ro with
        | none => some (h.next, h.next :: d, h.add (.deferred true))
        | some l0 => match h.get l0 with | some (.loop a) => some (a.defers, d, h) | _ => none) with
      | none => none
      | some (D, d', h0) =>
        let l := h0.next
        let h1 := h0.add (.loop { state := .ready, pending := none, fn := f, tmps := t, params := ps, assign, body, defers := D })
        match r.call gf ⟨appL first.toList (appL [.func (.yield l) #[] #[]] captured.toList)⟩ h1 with
        | none => none
        | some (_, h2) => match h2.get l with
          | some (.loop a) => match a.state with
            | .busy => none
            | _ => match a.pending with
              | none => some (.normal, t, d', h2.del l)
              | some .ret => some (.ret, t, d', h2.del l)
              | some (.exit id) => some (.exit id, t, d', h2.del l)
              | some _ => none
          | _ => none
  | _ => none

def regQ (ops : Array Oper) (t : ATmps) (h : AHeap) : Option (ATmps × AHeap) := match bits ops with
  | b => match slotsOK ops b with
    | true => qDraw r V ops.toList (Nat.sub (Nat.pow 2 ops.toList.length) 1) b (canon ops b) 0 t h []
    | false => none

def codeQ (c : Code) : FuncId → Option Nat → ATmps → List Nat → AHeap → CodeRes :=
  Code.rec (motive := fun _ => FuncId → Option Nat → ATmps → List Nat → AHeap → CodeRes)
    (fun _ _ t d h => some (.normal, t, d, h))
    (fun _ ops draw _ _ t d h => Option.rec (motive := fun _ => CodeRes) none (fun p => Prod.rec (motive := fun _ => CodeRes) (fun t' h' => some (.normal, t', d, h')) p)
      (Bool.rec (motive := fun _ => Option (ATmps × AHeap)) (opsQ r V ops.toList ops.toList t h) (regQ r V ops t h) draw))
    (fun a b _ _ f ro t d h => match r.code f ro a t d h with
      | some (.normal, t1, d1, h1) => r.code f ro b t1 d1 h1
      | x => x)
    (fun c a b _ _ f ro t d h => match qevalF V t c with
      | some (.bool true) => r.code f ro a t d h
      | some (.bool false) => r.code f ro b t d h
      | _ => none)
    (fun id b _ f ro t d h => match r.code f ro b t d h with
      | some (.exit k, t1, d1, h1) => match Nat.beq k id with
        | true => some (.normal, t1, d1, h1)
        | false => some (.exit k, t1, d1, h1)
      | x => x)
    (fun b _ f ro t d h => r.rounds f ro b t d h)
    (fun g ps assign body _ _ f ro t d h => qRangeFunc r V f ro g ps assign body t d h)
    (fun id _ _ t d h => some (.exit id, t, d, h))
    (fun _ _ _ _ _ _ _ => none)
    (fun _ _ _ t d h => some (.normal, t, d, h))
    (fun _ _ _ _ _ _ => none)
    (fun _ _ t d h => some (.ret, t, d, h))
    (fun _ _ _ _ _ _ => none) c

def callQ (g : FuncId) (args : Array Value) (h : AHeap) : Option (Value × AHeap) := match V.fn g with
  | none => none
  | some fn => match fn.body with
    | none => none
    | some c => match r.code g none c (ATmps.enter args.toList fn.ntmps) [] h with
      | some (.normal, t, d, h1) | some (.ret, t, d, h1) => match aTake d h1 with
        | none => none
        | some h2 => match qResult V t h2 fn.results.toList with
          | some vs => some (one vs, h2)
          | none => none
      | _ => none

def stepQ : Rec where
  code f ro c t d h := codeQ r V c f ro t d h
  rounds f ro b t d h := match r.code f ro b t d h with
    | some (.normal, t1, d1, h1) => r.rounds f ro b t1 d1 h1
    | x => x
  call g args h := callQ r V g args h
end

/-! ### It is the same -/
def slow (E : Env) : QV := { P := E.P, info := E.P.info?, und := E.P.underlying, fn := fun g => E.P.funcs[g]?, clones := E.clones }

theorem qPlaces_slow (E : Env) : ∀ fs : List Field, qPlaces (slow E) fs = aPlaces E.P fs := by
  intro fs
  induction fs with
  | nil => rfl
  | cons f fs ih =>
    simp only [qPlaces, aPlaces, ih]
    rfl
theorem qbuildF_slow (E : Env) (t : TypeId) (ps : List (Nat × Value)) : qbuildF (slow E) t ps = buildF E.P t ps := by
  unfold qbuildF buildF
  simp only [qPlaces_slow]
  rfl
theorem qopF_slow (E : Env) (op : Op) (ev : Operand → Option Value) (h : AHeap) : qopF op (slow E) ev h = aopF op E ev h := by
  cases op
  case build t ps =>
    show (match evParts ev ps.toList with
    | some ps => keep (qbuildF (slow E) t ps)
    | none => none) = _
    simp only [qbuildF_slow]
    rfl
  all_goals rfl
theorem qevalF_slow (E : Env) (t : ATmps) : qevalF (slow E) t = evalF E.P t := rfl
theorem qDo_eq (r : Rec) (x : Option ARes) (h : AHeap) : qDo r x h = doF r x h := rfl
theorem qWanted_eq (ops : Array Oper) (t : ATmps) (g : Option (Nat × Bool)) : qWanted ops.toList t g = wantedF ops t g := by
  cases g with
  | none => rfl
  | some p => simp only [qWanted, wantedF, nthA]; rfl
theorem opsQ_slow (r : Rec) (E : Env) (ops : Array Oper) : ∀ (l : List Oper) (t : ATmps) (h : AHeap), opsQ r (slow E) l ops.toList t h = opsF l r E ops t h := by
  intro l
  induction l with
  | nil => intro t h; rfl
  | cons o l ih =>
    intro t h
    show Option.rec (motive := fun _ => Option (ATmps × AHeap)) none
      (fun w => Bool.rec (motive := fun _ => Option (ATmps × AHeap)) (opsQ r (slow E) l ops.toList (t.put o.dst undef) h)
        (Option.rec (motive := fun _ => Option (ATmps × AHeap)) none (fun p => Prod.rec (motive := fun _ => Option (ATmps × AHeap)) (fun v h' => opsQ r (slow E) l ops.toList (t.put o.dst v) h') p)
          (qDo r (qopF o.op (slow E) (qevalF (slow E) t) h) h)) w)
      (qWanted ops.toList t o.guard) = _
    rw [qWanted_eq, qopF_slow]
    simp only [ih]
    rfl
theorem nthD_eq : ∀ (l : List Nat) (i : Nat), nthD l i = l.getD i 0 := by
  intro l
  induction l with
  | nil => intro i; rfl
  | cons x l ih =>
    intro i
    cases i with
    | zero => rfl
    | succ i => show nthD l i = _; rw [ih]; simp
theorem qDraw_slow (r : Rec) (E : Env) (ops : Array Oper) (b : List Nat) : ∀ (l : List Nat) (done : Nat) (t : ATmps) (h : AHeap) (pre : List (Nat × AHeap)), qDraw r (slow E) ops.toList (2 ^ ops.size - 1) b l done t h pre = aDraw r E ops b l done t h pre := by
  intro l
  induction l with
  | nil => intro done t h pre; rfl
  | cons i l ih =>
    intro done t h pre
    have e1 : ∀ (o : Oper) (h : AHeap), qopF o.op (slow E) (qevalF (slow E) t) h = aop E o (aeval E.P t) h := fun o h => by rw [qopF_slow, qevalF_slow, evalF_eq, aopF_eq]
    have e2 : ∀ o : Oper, qWanted ops.toList t o.guard = awanted ops t o := fun o => by rw [qWanted_eq, wantedF_eq]
    have e3 : ∀ (x : Option ARes) (h : AHeap), qDo r x h = aDo r x h := fun x h => by rw [qDo_eq, doF_eq]
    unfold qDraw aDraw
    simp only [ih, e1, e2, e3, nthA, nthD_eq]
    rfl
theorem qResult_slow (E : Env) (t : ATmps) (h : AHeap) : ∀ l : List ResultVar, qResult (slow E) t h l = aResult E t h l := by
  intro l
  induction l with
  | nil => rfl
  | cons x l ih => cases x <;> simp only [qResult, aResult, ih] <;> rfl
theorem qRangeFunc_slow (r : Rec) (E : Env) (f : FuncId) (ro : Option Nat) (g : Operand) (ps : Array Tmp) (assign body : Code) (t : ATmps) (d : List Nat) (h : AHeap) :
    qRangeFunc r (slow E) f ro g ps assign body t d h = aRangeFunc r E f ro g ps assign body t d h := by
  unfold qRangeFunc aRangeFunc
  rw [qevalF_slow, evalF_eq]
  have : ∀ (a c : Array Value) (v : Value), (a ++ #[v] ++ c) = ⟨appL a.toList (appL [v] c.toList)⟩ := fun a c v => by rw [app3]
  simp only [this]
  rfl
theorem regQ_slow (r : Rec) (E : Env) (ops : Array Oper) (t : ATmps) (h : AHeap) : regQ r (slow E) ops t h = regD r E ops t h := by
  unfold regQ regD
  have : Nat.sub (Nat.pow 2 ops.toList.length) 1 = 2 ^ ops.size - 1 := by rw [Array.length_toList]; rfl
  simp only [this, qDraw_slow]
  rfl
theorem codeQ_slow (r : Rec) (E : Env) (c : Code) (f : FuncId) (ro : Option Nat) (t : ATmps) (d : List Nat) (h : AHeap) : codeQ r (slow E) c f ro t d h = codeF c r E f ro t d h := by
  cases c with
  | region id ops draw =>
    cases draw with
    | false =>
      show Option.rec (motive := fun _ => CodeRes) none (fun p => Prod.rec (motive := fun _ => CodeRes) (fun t' h' => some (.normal, t', d, h')) p) (opsQ r (slow E) ops.toList ops.toList t h) = _
      rw [opsQ_slow]; rfl
    | true =>
      show Option.rec (motive := fun _ => CodeRes) none (fun p => Prod.rec (motive := fun _ => CodeRes) (fun t' h' => some (.normal, t', d, h')) p) (regQ r (slow E) ops t h) = _
      rw [regQ_slow]; rfl
  | rangeFunc g ps assign body => exact qRangeFunc_slow r E f ro g ps assign body t d h
  | _ => rfl
theorem callQ_slow (r : Rec) (E : Env) (g : FuncId) (args : Array Value) (h : AHeap) : callQ r (slow E) g args h = (step r E).call g args h := by
  unfold callQ
  simp only [qResult_slow]
  rfl
theorem stepQ_slow (r : Rec) (E : Env) : stepQ r (slow E) = stepF r E := by
  unfold stepQ stepF
  congr 1
  · funext f ro c t d h; exact codeQ_slow r E c f ro t d h
  · funext g args h; exact callQ_slow r E g args h

/-! ### Tables -/
def tabOf (E : Env) : Tri TypeInfo := Tri.ofList E.P.types.toList
def fnOf (E : Env) : Tri Func := Tri.ofList E.P.funcs.toList
def infoOf (E : Env) (T : Tri TypeInfo) (t : TypeId) : Option TypeInfo := Option.rec (motive := fun _ => Option TypeInfo) (E.P.info? t) (fun i => some i) (T.get t)
def undOf (E : Env) (T : Tri TypeInfo) (t : TypeId) : Option TypeDesc :=
  match infoOf E T t with
  | some i => match i.desc with
    | .named _ u => match infoOf E T u with
      | some j => some j.desc
      | none => none
    | d => some d
  | none => none
/-- The program as it is looked into: by tries. -/
def quick (E : Env) (T : Tri TypeInfo) (F : Tri Func) : QV := { P := E.P, info := infoOf E T, und := undOf E T, fn := F.get, clones := E.clones }
theorem infoOf_eq (E : Env) : infoOf E (tabOf E) = E.P.info? := funext fun t => by
  unfold infoOf
  cases h : (tabOf E).get t with
  | none => rfl
  | some i =>
    have h : (Tri.ofList E.P.types.toList).get t = some i := h
    rw [Tri.get_ofList, Array.getElem?_toList] at h
    have hlt : t < E.P.types.size := (Array.getElem?_eq_some_iff.1 h).1
    show some i = E.P.toTables.info? t
    unfold Tables.info?
    rw [if_pos hlt, h]
theorem quick_slow (E : Env) : quick E (tabOf E) (fnOf E) = slow E := by
  have h2 : (fnOf E).get = fun g => E.P.funcs[g]? := funext fun t => by
    show (Tri.ofList E.P.funcs.toList).get t = E.P.funcs[t]?
    rw [Tri.get_ofList, Array.getElem?_toList]
  have h3 : undOf E (tabOf E) = E.P.underlying := funext fun t => by
    unfold undOf Program.underlying
    rw [infoOf_eq]
    cases E.P.info? t with
    | none => rfl
    | some i =>
      obtain ⟨desc, str, size, bytes, hasPointers, align, fieldAlign, zero, comparable, methods⟩ := i
      cases desc
      case named n u =>
        show (match E.P.info? u with | some j => some j.desc | none => none) = (E.P.info? u).map (·.desc)
        cases E.P.info? u <;> rfl
      all_goals rfl
  unfold quick slow
  rw [infoOf_eq, h2, h3]

def evQ (V : QV) (tab : FuncId → Array Value → AHeap → Option (Value × AHeap)) (n : Nat) : Rec :=
  Nat.rec (motive := fun _ => Rec) { code := fun _ _ _ _ _ _ => none, rounds := fun _ _ _ _ _ _ => none, call := fun _ _ _ => none }
    (fun _ r => { code := (stepQ r V).code, rounds := (stepQ r V).rounds,
                  call := fun g args h => Option.rec (motive := fun _ => Option (Value × AHeap)) ((stepQ r V).call g args h) (fun x => some x) (tab g args h) }) n
theorem evQ_ok {E : Env} (F : Fits E) {tab : FuncId → Array Value → AHeap → Option (Value × AHeap)} (T : CallOK E tab) : ∀ n, RecOK E (evQ (quick E (tabOf E) (fnOf E)) tab n) := by
  rw [quick_slow]
  intro n
  induction n with
  | zero =>
    refine ⟨?_, ⟨0, ?_⟩, ?_⟩
    · intro _ _ _ _ _ _ _ _ _ _ h; cases h
    · intro _ _ _ _ _ _ _ _ _ _ h; cases h
    · intro _ _ _ _ _ h; cases h
  | succ n ih =>
    have hs : RecOK E (stepQ (evQ (slow E) tab n) (slow E)) := by rw [stepQ_slow, stepF_eq]; exact ⟨step_code F ih, step_rounds ih, step_call ih⟩
    refine ⟨hs.code, hs.rounds, ?_⟩
    intro g args h v h' e
    have e : Option.rec (motive := fun _ => Option (Value × AHeap)) ((stepQ (evQ (slow E) tab n) (slow E)).call g args h) (fun x => some x) (tab g args h) = some (v, h') := e
    cases hx : tab g args h with
    | some x => rw [hx] at e; cases e; exact T hx
    | none => rw [hx] at e; exact hs.call e

end
end Go.Abs
