/- An interpreter of the language over data, and the proof that what it answers is what the machine does; no condition. -/
import Derived.Test.YtdojjjjhbgkpfaaAiCore
set_option linter.unusedVariables false
namespace Go.Ai
/-! ## The operations, abstractly -/
def T.toV : T → V
  | .s v => .s v
  | .sl z rows => .sl z rows
mutual
def ofVal : Value → Option V
  | .agg ⟨cs⟩ => (ofVals cs).map V.agg
  | .tuple ⟨cs⟩ => (ofVals cs).map V.tuple
  | v => if scalar v then some (.s v) else none
def ofVals : List Value → Option (List V)
  | [] => some []
  | v :: vs => match ofVal v, ofVals vs with
    | some x, some xs => some (x :: xs)
    | _, _ => none
end
def isAgg (P : Program) (t : TypeId) : Option Bool :=
  match P.underlying t with
  | some (.struct _) | some (.array _ _) => some true
  | some _ => some false
  | none => none
/-- The cells of a value that can be stored. -/
def V.cells? : V → Option (List V)
  | .agg cs => some cs
  | .undef | .tuple _ => none
  | v => some [v]
def zeroV (P : Program) (t : TypeId) : Option V := (P.info? t).bind (·.zero) |>.bind ofVal
def part (P : Program) (t : TypeId) (cells : List V) (o : Nat) : Option V :=
  match isAgg P t with
  | some true => if o + P.cellsOf t ≤ cells.length then some (.agg ((cells.drop o).take (P.cellsOf t))) else none
  | some false => cells[o]?
  | none => none
def cellsAt (σ : List Blk) (t i : Nat) : Option (List V) :=
  match σ[t]? with
  | some (.box cells _) => if i = 0 then some cells else none
  | some (.rows _ xs _) => (xs[i]?).map (·.map T.toV)
  | _ => none
def aload (P : Program) (σ : List Blk) (t : TypeId) : V → Option V
  | .ptr tag i o => (cellsAt σ tag i).bind fun cells => part P t cells o
  | .iref cs => part P t (cs.map T.toV) 0
  | _ => none
def chunkT (z : Nat) : Nat → List T → List (List T)
  | 0, _ => []
  | n + 1, l => l.take z :: chunkT z n (l.drop z)
def scalT : V → Option T
  | .s v => some (.s v)
  | .sl z rows => some (.sl z rows)
  | _ => none
def scalTs : List V → Option (List T)
  | [] => some []
  | v :: vs => match scalT v, scalTs vs with
    | some x, some xs => some (x :: xs)
    | _, _ => none
/-- A slice as rows of data: cells a row, and the rows. -/
def rowsOf (σ : List Blk) : V → Option (Nat × List (List T))
  | .s (.slice none 0 0) => some (0, [])
  | .emp => some (0, [])
  | .s (.string s) => some (1, s.data.toList.map fun b => [T.s (.int .u8 b.toNat)])
  | .sl z rows => some (z, rows)
  | .own t off len => match σ[t]? with
    | some (.rows z xs _) => if off + len ≤ xs.length then some (z, (xs.drop off).take len) else none
    | _ => none
  | .win t off len z => match σ[t]? with
    | some (.box cells _) => if off + len * z ≤ cells.length ∧ 0 < z then (scalTs ((cells.drop off).take (len * z))).map fun ts => (z, chunkT z len ts) else none
    | _ => none
  | _ => none
/-- What a value holds, as data that nobody changes any more. -/
def frz1 (σ : List Blk) : V → Option (T × List Blk)
  | .s v => some (.s v, σ)
  | .sl z rows => some (.sl z rows, σ)
  | .emp => some (.sl 0 [], σ)
  | .own t off len => match σ[t]? with
    | some (.rows z xs _) => if off + len ≤ xs.length then some (.sl z ((xs.drop off).take len), σ.set t (.rows z xs true)) else none
    | _ => none
  | _ => none
def frz : List Blk → List V → Option (List T × List Blk)
  | σ, [] => some ([], σ)
  | σ, v :: vs => match frz1 σ v with
    | some (t, σ1) => match frz σ1 vs with
      | some (ts, σ2) => some (t :: ts, σ2)
      | none => none
    | none => none
def setL {α : Type} (l : List α) (o : Nat) (vs : List α) : List α := l.take o ++ vs ++ l.drop (o + vs.length)
def V.atom : V → Bool
  | .undef | .agg _ | .tuple _ => false
  | _ => true
def astore (P : Program) (σ : List Blk) (t : TypeId) (a x : V) : Option (List Blk) :=
  match a, x.cells? with
  | .ptr tag i o, some vs =>
    if (P.underlying t).isNone ∨ vs.length ≠ P.cellsOf t ∨ vs.all V.atom = false then none else
    match σ[tag]? with
    | some (.box cells false) => if i = 0 ∧ o + vs.length ≤ cells.length then some (σ.set tag (.box (setL cells o vs) false)) else none
    | some (.rows _ _ false) => match frz σ vs with
      | some (ts, σ1) => match σ1[tag]? with
        | some (.rows z xs false) => match xs[i]? with
          | some r => if o + ts.length ≤ r.length then some (σ1.set tag (.rows z (xs.set i (setL r o ts)) false)) else none
          | none => none
        | _ => none
      | none => none
    | _ => none
  | _, _ => none
def bAnd (k : IntKind) (a b : Int) : Int := k.wrap (BitVec.ofInt k.bits a &&& BitVec.ofInt k.bits b).toNat
def bOr (k : IntKind) (a b : Int) : Int := k.wrap (BitVec.ofInt k.bits a ||| BitVec.ofInt k.bits b).toNat
def bXor (k : IntKind) (a b : Int) : Int := k.wrap (BitVec.ofInt k.bits a ^^^ BitVec.ofInt k.bits b).toNat
def bAndNot (k : IntKind) (a b : Int) : Int := k.wrap (BitVec.ofInt k.bits a &&& ~~~BitVec.ofInt k.bits b).toNat
def intBin (op : BinOp) (k : IntKind) (a b : Int) : Option Value :=
  match op with
  | .add => some (.int k (k.wrap (a + b)))
  | .sub => some (.int k (k.wrap (a - b)))
  | .mul => some (.int k (k.wrap (a * b)))
  | .quo => if b = 0 then none else some (.int k (k.wrap (a.tdiv b)))
  | .rem => if b = 0 then none else some (.int k (a.tmod b))
  | .and => some (.int k (bAnd k a b))
  | .or => some (.int k (bOr k a b))
  | .xor => some (.int k (bXor k a b))
  | .andNot => some (.int k (bAndNot k a b))
  | .eql => some (.bool (a == b))
  | .neq => some (.bool (a != b))
  | .lss => some (.bool (a < b))
  | .leq => some (.bool (a ≤ b))
  | .gtr => some (.bool (a > b))
  | .geq => some (.bool (a ≥ b))
  | _ => none
def shiftBin (op : BinOp) (k : IntKind) (a b : Int) : Option Value :=
  if b < 0 then none else
  match op with
  | .shl => some (.int k (k.wrap (a * 2 ^ (min b.toNat k.bits))))
  | .shr => some (.int k (a.fdiv (2 ^ (min b.toNat k.bits))))
  | _ => none
def strBin (op : BinOp) (x y : ByteArray) : Option Value :=
  match op with
  | .add => if ((x.size + y.size : Nat) : Int) > IntKind.i64.max then none else some (.string (x ++ y))
  | .eql => some (.bool (x.toList == y.toList))
  | .neq => some (.bool !(x.toList == y.toList))
  | .lss => some (.bool (Op.bytesLess x.toList y.toList))
  | .leq => some (.bool (Op.bytesLess x.toList y.toList || x.toList == y.toList))
  | .gtr => some (.bool !(Op.bytesLess x.toList y.toList || x.toList == y.toList))
  | .geq => some (.bool !Op.bytesLess x.toList y.toList)
  | _ => none
/-- The kinds of a plain type's cells. -/
inductive LK where
  | b | i | s
  deriving DecidableEq
def tiles (P : Program) : Nat → List Field → Option Nat
  | o, [] => some o
  | o, f :: fs => if f.offset = o ∧ f.name ≠ "_" then tiles P (o + P.cellsOf f.type) fs else none
mutual
/-- Of a type made of numbers, bools and strings alone, all of which count: its cells' kinds. -/
def leafK (P : Program) : Nat → TypeId → Option (List LK)
  | 0, _ => none
  | d + 1, t =>
    match P.underlying t with
    | some .bool => if P.cellsOf t = 1 then some [.b] else none
    | some (.int _) => if P.cellsOf t = 1 then some [.i] else none
    | some .string => if P.cellsOf t = 1 then some [.s] else none
    | some (.struct fs) => if P.stoodInHeld t = false ∧ tiles P 0 fs.toList = some (P.cellsOf t) then leafKs P d fs.toList else none
    | some (.array n e) => match leafK P d e with
      | some l => if l.length = P.cellsOf e ∧ P.cellsOf t = n * P.cellsOf e then some (List.replicate n l).flatten else none
      | none => none
    | _ => none
def leafKs (P : Program) (d : Nat) : List Field → Option (List LK)
  | [] => some []
  | f :: fs => match leafK P d f.type, leafKs P d fs with
    | some l, some ls => if l.length = P.cellsOf f.type then some (l ++ ls) else none
    | _, _ => none
end
/-- Are two cells of plain data one? -/
def eqCell : LK → V → V → Option Bool
  | .i, .s (.int k a), .s (.int k' b) => if k = k' then some (a == b) else none
  | .b, .s (.bool a), .s (.bool b) => some (a == b)
  | .s, .s (.string a), .s (.string b) => some (a.toList == b.toList)
  | _, _, _ => none
def eqCells : List LK → List V → List V → Option Bool
  | [], [], [] => some true
  | k :: ks, x :: xs, y :: ys => match eqCell k x y, eqCells ks xs ys with
    | some a, some b => some (a && b)
    | _, _ => none
  | _, _, _ => none
def nilP : V → Option Bool
  | .s (.pointer none) => some true
  | .ptr .. | .iref _ => some false
  | _ => none
def nilS : V → Option Bool
  | .s (.slice none 0 0) => some true
  | .sl _ (_ :: _) => some false
  | _ => none
def nilF : V → Option Bool
  | .s .nilFunc => some true
  | .clo .. => some false
  | _ => none
def aeq (P : Program) (t : TypeId) (x y : V) : Option Bool :=
  match P.underlying t with
  | some .bool => match x, y with
    | .s (.bool a), .s (.bool b) => some (a == b)
    | _, _ => none
  | some (.pointer _) => match x, y with
    | x, .s (.pointer none) => nilP x
    | .s (.pointer none), y => nilP y
    | _, _ => none
  | some (.slice _) => match y with
    | .s (.slice none 0 0) => nilS x
    | _ => none
  | some (.func _ _ _) => match y with
    | .s .nilFunc => nilF x
    | _ => none
  | some (.struct _) | some (.array _ _) => match x, y with
    | .agg xs, .agg ys => (leafK P 20 t).bind fun ks => eqCells ks xs ys
    | _, _ => none
  | _ => none
def abin (P : Program) (op : BinOp) (t : TypeId) (x y : V) : Option V :=
  match op, x, y with
  | .shl, .s (.int k a), .s (.int _ b) => (shiftBin .shl k a b).map V.s
  | .shr, .s (.int k a), .s (.int _ b) => (shiftBin .shr k a b).map V.s
  | op, .s (.int k a), .s (.int k' b) => if k = k' then (intBin op k a b).map V.s else none
  | op, .s (.string a), .s (.string b) => (strBin op a b).map V.s
  | .eql, x, y => (aeq P t x y).map fun b => .s (.bool b)
  | .neq, x, y => (aeq P t x y).map fun b => .s (.bool !b)
  | _, _, _ => none
def aun (op : UnOp) (x : V) : Option V :=
  match op, x with
  | .neg, .s (.int k n) => some (.s (.int k (k.wrap (0 - n))))
  | .xor, .s (.int k n) => some (.s (.int k (k.wrap (BitVec.ofInt k.bits (if k.signed then -1 else k.max) ^^^ BitVec.ofInt k.bits n).toNat)))
  | .not, .s (.bool b) => some (.s (.bool !b))
  | _, _ => none
def numsT : List (List T) → Option (List Int)
  | [] => some []
  | [.s (.int .u8 n)] :: rs => match numsT rs with
    | some ns => some (n :: ns)
    | none => none
  | _ => none
def isByte (P : Program) (e : TypeId) : Bool := match P.underlying e with | some (.int .u8) => true | _ => false
def aconv (P : Program) (σ : List Blk) (src dst : TypeId) (x : V) : Option V :=
  match P.underlying src with
  | none => none
  | some sd => match P.underlying dst, x with
    | some (.int k), .s (.int _ n) => some (.s (.int k (k.wrap n)))
    | some .string, .s (.string s) => some (.s (.string s))
    | some (.slice e), .s (.string s) => if isByte P e = true then some (.sl 1 (s.data.toList.map fun b => [T.s (.int .u8 b.toNat)])) else none
    | some .string, x => match sd with
      | .slice e => if isByte P e = true then match rowsOf σ x with
          | some (_, rows) => (numsT rows).map fun ns => .s (.string (strOfNums ns))
          | none => none else none
      | _ => none
    | _, _ => none
def fieldOf (P : Program) (t : TypeId) (f : Nat) : Option (Nat × TypeId) :=
  match P.underlying t with
  | some (.struct fs) => (fs[f]?).map fun f => (f.offset, f.type)
  | _ => none
def known (P : Program) (e : TypeId) : Bool := (P.underlying e).isSome
def aindexAddr (P : Program) (σ : List Blk) (t : TypeId) (x ix : V) : Option V :=
  match P.underlying t, x, ix with
  | some (.array len e), .ptr tag i o, .s (.int _ n) => if known P e = true ∧ 0 ≤ n ∧ n < len then some (.ptr tag i (o + n.toNat * P.cellsOf e)) else none
  | some (.array len e), .iref cs, .s (.int _ n) => if known P e = true ∧ 0 ≤ n ∧ n < len then some (.iref ((cs.drop (n.toNat * P.cellsOf e)).take (P.cellsOf e))) else none
  | some (.slice e), .own tag off len, .s (.int _ n) => if known P e = true ∧ 0 ≤ n ∧ n < len then (match σ[tag]? with
      | some (.rows z _ _) => if z = P.cellsOf e then some (.ptr tag (off + n.toNat) 0) else none
      | _ => none) else none
  | some (.slice e), .win tag off len z, .s (.int _ n) => if known P e = true ∧ 0 ≤ n ∧ n < len ∧ z = P.cellsOf e then some (.ptr tag 0 (off + n.toNat * z)) else none
  | some (.slice e), .sl z rows, .s (.int _ n) => if known P e = true ∧ 0 ≤ n ∧ n < rows.length ∧ z = P.cellsOf e then (rows[n.toNat]?).map V.iref else none
  | _, _, _ => none
def aindex (P : Program) (t : TypeId) (x ix : V) : Option V :=
  match P.underlying t, x, ix with
  | some (.array len e), .agg cs, .s (.int _ n) => if known P e = true ∧ 0 ≤ n ∧ n < len then part P e cs (n.toNat * P.cellsOf e) else none
  | some .string, .s (.string s), .s (.int _ n) => if 0 ≤ n then (s.data[n.toNat]?).map fun b => .s (.int .u8 b.toNat) else none
  | _, _, _ => none
def bound? (x : Option V) (d : Nat) : Option Nat :=
  match x with
  | none => some d
  | some (.s (.int _ n)) => if 0 ≤ n then some n.toNat else none
  | _ => none
def aslice (P : Program) (σ : List Blk) (t : TypeId) (x : V) (lo hi mx : Option V) : Option V :=
  match P.underlying t, x with
  | some .string, .s (.string s) =>
    match bound? hi s.size, bound? lo 0, mx with
    | some h, some l, none => if l ≤ h ∧ h ≤ s.size then some (.s (.string (s.extract l h))) else none
    | _, _, _ => none
  | some (.slice e), .sl z rows =>
    match bound? hi rows.length, bound? lo 0, mx with
    | some h, some l, none => if known P e = true ∧ z = P.cellsOf e ∧ l ≤ h ∧ h ≤ rows.length then some (.sl z ((rows.drop l).take (h - l))) else none
    | some h, some l, some m => match bound? (some m) 0 with
      | some m => if known P e = true ∧ l = h ∧ h = m ∧ m ≤ rows.length ∧ hi.isSome then some .emp else none
      | none => none
    | _, _, _ => none
  | some (.slice e), .own tag off len =>
    match bound? hi len, bound? lo 0, σ[tag]? with
    | some h, some l, some (.rows z xs _) =>
      match mx with
      | none => if known P e = true ∧ z = P.cellsOf e ∧ l ≤ h ∧ off + h ≤ xs.length then some (.own tag (off + l) (h - l)) else none
      | some m => match bound? (some m) 0 with
        | some m => if known P e = true ∧ l = h ∧ h = m ∧ off + m ≤ xs.length ∧ hi.isSome then some .emp else none
        | none => none
    | _, _, _ => none
  | some (.slice e), .emp =>
    match bound? hi 0, bound? lo 0, bound? mx 0 with
    | some 0, some 0, some 0 => if known P e = true ∧ (mx.isSome → hi.isSome) then some .emp else none
    | _, _, _ => none
  | some (.slice e), .s (.slice none 0 0) =>
    match bound? hi 0, bound? lo 0, bound? mx 0 with
    | some 0, some 0, some 0 => if known P e = true ∧ (mx.isSome → hi.isSome) then some .emp else none
    | _, _, _ => none
  | some (.slice e), .win tag off len z =>
    match bound? hi len, bound? lo 0, mx with
    | some h, some l, none => if known P e = true ∧ l ≤ h ∧ h ≤ len ∧ z = P.cellsOf e then some (.win tag (off + l * z) (h - l) z) else none
    | _, _, _ => none
  | some (.array n e), .ptr tag 0 o =>
    match bound? hi n, bound? lo 0, mx with
    | some h, some l, none => if known P e = true ∧ l ≤ h ∧ h ≤ n then some (.win tag (o + l * P.cellsOf e) (h - l) (P.cellsOf e)) else none
    | _, _, _ => none
  | some (.array n e), .iref cs =>
    match bound? hi n, bound? lo 0, mx with
    | some h, some l, none => if known P e = true ∧ l ≤ h ∧ h ≤ n ∧ n * P.cellsOf e ≤ cs.length then some (.sl (P.cellsOf e) (chunkT (P.cellsOf e) (h - l) (cs.drop (l * P.cellsOf e)))) else none
    | _, _, _ => none
  | _, _ => none
def aarr (P : Program) (arr : TypeId) (x : V) : Option V :=
  match P.underlying arr, x with
  | some (.array n _), .win tag off len _ => if 0 < n ∧ n ≤ len then some (.ptr tag 0 off) else none
  | some (.array n _), .sl _ rows => if 0 < n ∧ n ≤ rows.length then some (.iref rows.flatten) else none
  | _, _ => none
def afill (place : Nat → Option (Nat × Nat)) (cells : List V) : List (Nat × V) → Option (List V)
  | [] => some cells
  | (i, v) :: rest => match place i, v.cells? with
    | some (off, size), some vs => if vs.length = size ∧ off + size ≤ cells.length then afill place (setL cells off vs) rest else none
    | _, _ => none
def abuild (P : Program) (t : TypeId) (parts : List (Nat × V)) : Option V :=
  match zeroV P t, P.underlying t with
  | some (.agg zero), some (.struct fs) => if fs.all (fun f => known P f.type) = true then (afill (fun i => (fieldOf P t i).map fun (o, u) => (o, P.cellsOf u)) zero parts).map V.agg else none
  | some (.agg zero), some (.array _ e) => if known P e = true then (afill (fun i => some (i * P.cellsOf e, P.cellsOf e)) zero parts).map V.agg else none
  | _, _ => none
def arowsFill (z : Nat) : List Blk → List (List T) → List (Nat × V) → Option (List (List T) × List Blk)
  | σ, xs, [] => some (xs, σ)
  | σ, xs, (i, v) :: rest => match v.cells? with
    | some vs => match frz σ vs with
      | some (ts, σ1) => if ts.length = z ∧ i < xs.length then arowsFill z σ1 (xs.set i ts) rest else none
      | none => none
    | none => none
def isIntD : TypeDesc → Bool
  | .int _ => true
  | _ => false
/-- Has a type a zero value, of its size? -/
def zok (P : Program) (e : TypeId) : Bool :=
  match (P.info? e).bind (·.zero) with
  | some z => z.cells.size == P.cellsOf e
  | none => false
def abuildSlice (P : Program) (σ : List Blk) (t : TypeId) (len : Nat) (parts : List (Nat × V)) : Option (V × List Blk) :=
  match P.underlying t with
  | some (.slice e) =>
    if P.cellsOf e = 0 ∨ len * P.cellsOf e > 16777216 ∨ zok P e = false then none else
    match (zeroV P e).bind V.cells? with
    | some zc =>
      match (scalTs zc).bind fun zt => arowsFill (P.cellsOf e) σ (List.replicate len zt) parts with
      | some (xs, σ1) => some (.own σ1.length 0 len, σ1 ++ [.rows (P.cellsOf e) xs false])
      | none => match afill (fun i => some (i * P.cellsOf e, P.cellsOf e)) (List.replicate len zc).flatten parts with
        | some cells => some (.win σ.length 0 len (P.cellsOf e), σ ++ [.box cells false])
        | none => none
    | none => none
  | _ => none
def amakeSlice (P : Program) (σ : List Blk) (t : TypeId) (l c : V) : Option (V × List Blk) :=
  match P.underlying t, l, c with
  | some (.slice e), .s (.int _ l), .s (.int _ c) =>
    if 0 ≤ l ∧ l ≤ c ∧ (P.bytesOf e : Int) * c ≤ 281474976710656 ∧ 0 < P.bytesOf e ∧ 0 < P.cellsOf e ∧ zok P e = true then
      match ((zeroV P e).bind V.cells?).bind scalTs with
      | some zt => some (.own σ.length 0 l.toNat, σ ++ [.rows (P.cellsOf e) (List.replicate l.toNat zt) false])
      | none => none
    else none
  | _, _, _ => none
def alen (P : Program) (σ : List Blk) (t : TypeId) (x : V) : Option Int :=
  match P.underlying t, x with
  | some .string, .s (.string s) => some s.size
  | some (.array n _), _ => some n
  | some (.pointer a), _ => match P.underlying a with | some (.array n _) => some n | _ => none
  | some (.slice _), .sl _ rows => some rows.length
  | some (.slice _), .emp => some 0
  | some (.slice _), .s (.slice none 0 0) => some 0
  | some (.slice _), .own _ _ len => some len
  | some (.slice _), .win _ _ len _ => some len
  | _, _ => none
def aappend (P : Program) (σ : List Blk) (t u : TypeId) (s x : V) : Option (V × List Blk × List Nat) :=
  match P.underlying t, P.underlying u with
  | some (.slice e), some ud =>
    if isIntD ud = true ∨ P.cellsOf e = 0 ∨ P.bytesOf e = 0 ∨ zok P e = false then none else
    match rowsOf σ x with
    | none => none
    | some (zy, ys) =>
      if ¬ (zy = P.cellsOf e ∨ ys = []) then none else
      match s with
      | .own tag 0 len => match σ[tag]? with
        | some (.rows z xs ro) => if z = P.cellsOf e ∧ len = xs.length ∧ (xs.length + ys.length) * P.bytesOf e ≤ 140737488355328 then
            some (.own tag 0 (xs.length + ys.length), σ.set tag (.rows z (xs ++ ys) ro), [tag]) else none
        | _ => none
      | .emp | .s (.slice none 0 0) => if ys.length * P.bytesOf e ≤ 140737488355328 then
          some (.own σ.length 0 ys.length, σ ++ [.rows (P.cellsOf e) ys false], []) else none
      | _ => none
  | _, _ => none
def notStr : V → Bool
  | .s (.string _) => false
  | _ => true
def acopy (P : Program) (σ : List Blk) (t : TypeId) (d x : V) : Option (V × List Blk) :=
  match P.underlying t, d, rowsOf σ x with
  | some (.slice e), .own tag off len, some (zy, ys) => match σ[tag]? with
    | some (.rows z xs false) => if z = P.cellsOf e ∧ 0 < z ∧ notStr x = true ∧ (zy = z ∨ ys = []) ∧ off + len ≤ xs.length then
        let n := min ys.length len
        some (.s (.int .i64 n), σ.set tag (.rows z (setL xs off (ys.take n)) false)) else none
    | _ => none
  | some (.slice e), .win tag off len z, some (zy, ys) => match σ[tag]? with
    | some (.box cells false) => if z = P.cellsOf e ∧ 0 < z ∧ notStr x = true ∧ (zy = z ∨ ys = []) ∧ off + len * z ≤ cells.length ∧ (∀ r ∈ ys, r.length = z) then
        some (.s (.int .i64 (min ys.length len : Nat)), σ.set tag (.box (setL cells off ((ys.take (min ys.length len)).flatten.map T.toV)) false)) else none
    | _ => none
  | _, _, _ => none
def aclear (P : Program) (σ : List Blk) (t : TypeId) (d : V) : Option (V × List Blk) :=
  match P.underlying t, d with
  | some (.slice e), .own tag off len => match σ[tag]? with
    | some (.rows z xs false) =>
      if z = P.cellsOf e ∧ 0 < z ∧ zok P e = true ∧ off + len ≤ xs.length then
        match ((zeroV P e).bind V.cells?).bind scalTs with
        | some zt => some (.tuple [], σ.set tag (.rows z (setL xs off (List.replicate len zt)) false))
        | none => none
      else none
    | _ => none
  | _, _ => none
def minmax (f : Int → Int → Int) : List V → Option V
  | [.s (.int k a)] => some (.s (.int k a))
  | .s (.int k a) :: .s (.int k' b) :: rest => if k = k' then minmax f (.s (.int k (f a b)) :: rest) else none
  | _ => none
termination_by l => l.length
def Blk.pz (mv : List Nat) : Blk → Blk
  | .box cells ro => .box (V.pzs mv cells) ro
  | .mp es c => .mp (es.map fun e => (e.1.pz mv, e.2.1.pz mv, e.2.2)) c
  | .it (some m) since seen last => if m ∈ mv then .dead else .it (some m) since seen last
  | b => b
def abuiltin (P : Program) (σ : List Blk) (b : Builtin) (ts : List TypeId) (args : List V) : Option (V × List Blk × List Nat) :=
  match b, ts, args with
  | .len, [t], [x] => (alen P σ t x).map fun n => (.s (.int .i64 n), σ, [])
  | .append, [t, u], [s, x] => (aappend P σ t u s x).map fun (v, σ', mv) => (v, σ'.map (Blk.pz mv), mv)
  | .copy, [t, _], [d, x] => (acopy P σ t d x).map fun (v, σ') => (v, σ', [])
  | .clear, [t], [d] => (aclear P σ t d).map fun (v, σ') => (v, σ', [])
  | .min, _, args => (minmax (fun x y => if y < x then y else x) args).map fun v => (v, σ, [])
  | .max, _, args => (minmax (fun x y => if y > x then y else x) args).map fun v => (v, σ, [])
  | _, _, _ => none
def aop (P : Program) (ev : Operand → V) (σ : List Blk) (o : Oper) : Option (V × List Blk × List Nat) :=
  let r (x : Option V) : Option (V × List Blk × List Nat) := x.map fun v => (v, σ, [])
  match o.op with
  | .move x | .assign x => some (ev x, σ, [])
  | .pick c a b => match ev c with
    | .s (.bool t) => some (if t then ev a else ev b, σ, [])
    | _ => none
  | .alloc e => ((zeroV P e).bind V.cells?).map fun cells => (.ptr σ.length 0 0, σ ++ [.box cells false], [])
  | .box _ x => (ev x).cells?.map fun cells => (.ptr σ.length 0 0, σ ++ [.box cells false], [])
  | .build t parts => r (abuild P t (parts.toList.map fun (i, x) => (i, ev x)))
  | .buildSlice t len parts => (abuildSlice P σ t len (parts.toList.map fun (i, x) => (i, ev x))).map fun (v, σ') => (v, σ', [])
  | .load t a => r (aload P σ t (ev a))
  | .store t a x => (astore P σ t (ev a) (ev x)).map fun σ' => (.undef, σ', [])
  | .nilCheck x => match ev x with
    | .ptr t i o => some (.ptr t i o, σ, [])
    | .iref cs => some (.iref cs, σ, [])
    | .clo (.func f) a b => some (.clo (.func f) a b, σ, [])
    | _ => none
  | .binOp op t x y _ => r (abin P op t (ev x) (ev y))
  | .unOp op _ x => r (aun op (ev x))
  | .convert s d x => r (aconv P σ s d (ev x))
  | .sliceToArrayPointer arr x => r (aarr P arr (ev x))
  | .makeFunc fn first captured => some (.clo fn (first.toList.map ev) (captured.toList.map ev), σ, [])
  | .makeSlice t l c => (amakeSlice P σ t (ev l) (ev c)).map fun (v, σ') => (v, σ', [])
  | .slice t x lo hi mx => r (aslice P σ t (ev x) (lo.map ev) (hi.map ev) (mx.map ev))
  | .fieldAddr s x f => match fieldOf P s f, ev x with
    | some (off, u), .ptr t i o => if P.cellsOf u = 0 then none else some (.ptr t i (o + off), σ, [])
    | some (off, u), .iref cs => if P.cellsOf u = 0 then none else some (.iref (cs.drop off), σ, [])
    | _, _ => none
  | .field t x f => match fieldOf P t f, ev x with
    | some (off, u), .agg cs => r (part P u cs off)
    | _, _ => none
  | .indexAddr t x ix => r (aindexAddr P σ t (ev x) (ev ix))
  | .index t x ix => r (aindex P t (ev x) (ev ix))
  | .extract t i => match ev t with
    | .tuple vs => r vs[i]?
    | _ => none
  | .call c => match c.callee with
    | .builtin b => abuiltin P σ b c.argTypes.toList (c.args.toList.map ev)
    | _ => none
  | _ => none
end Go.Ai
