/- A deterministic evaluator of the loaded program's code over value trees and a small heap. This file only defines it; nothing is claimed here. The evaluator, continued: operations, regions, code, calls. Nothing is claimed here. How the evaluator's values and small heap stand to the model's values and world: the relation, and what keeps it. The model's world after a change of one object of the small heap; loads and stores. The operations, one by one: what the evaluator says of an operation, the model does. First part. -/
import Derived.WalkKit
set_option linter.unusedSimpArgs false
set_option linter.unusedVariables false
namespace Go.Can

inductive AV where
  | int (k : IntKind) (n : Int)
  | bool (b : Bool)
  | str (s : ByteArray)
  | nilp
  | nilf
  | nili
  | agg (cs : List AV)
  | tup (vs : List AV)
  | list (full : Bool) (sz : Nat) (xs : List AV)
  | row (sz id gen off len : Nat) (lim : Bool)
  | elm (s : AV) (sz i off : Nat)
  | ptr (id off : Nat)
  | map (r : Option Nat)
  | fn (f : FuncId) (first cap : List AV)

instance : Inhabited AV := ⟨.nilp⟩

inductive Ob where
  | none
  | row (sz : Nat) (xs : List AV)
  | cells (cs : List AV)
  | map (es : List (AV × AV))

instance : Inhabited Ob := ⟨.none⟩

abbrev St := List Ob

inductive Slot where
  | val (v : AV)
  | var (cs : List AV)
  | plc (s off : Nat)
  | und
  | top

instance : Inhabited Slot := ⟨.top⟩

abbrev Env := List Slot

def AV.cells : AV → List AV
  | .agg cs => cs
  | v => [v]

/-- One cell's constant. -/
def ofC : Value → Option AV
  | .bool b => some (.bool b)
  | .int k n => some (.int k n)
  | .string s => some (.str s)
  | .pointer none => some .nilp
  | .slice none 0 0 => some (.list true 0 [])
  | .map none => some (.map none)
  | .nilFunc => some .nilf
  | .nilIface => some .nili
  | _ => none

def ofCs : List Value → Option (List AV)
  | [] => some []
  | v :: vs => match ofC v, ofCs vs with
    | some a, some as => some (a :: as)
    | _, _ => none

def ofV : Value → Option AV
  | .agg cs => (ofCs cs.toList).map .agg
  | v => ofC v

def look (env : Env) : Operand → Slot
  | .tmp t => match env[t]? with
    | some (.var _) => .plc t 0
    | some s => s
    | none => .top
  | .const v => match ofV v with
    | some a => .val a
    | none => .top
  | .global _ => .top
  | .func f => .val (.fn f [] [])

/-- A value, no pair of results. -/
def Slot.v : Slot → Option AV
  | .val (.tup _) => none
  | .val v => some v
  | _ => none

def lookV (env : Env) (x : Operand) : Option AV := (look env x).v

def lookVs (env : Env) : List Operand → Option (List AV)
  | [] => some []
  | x :: xs => match lookV env x, lookVs env xs with
    | some a, some as => some (a :: as)
    | _, _ => none

section
variable (P : Program)

def szOf (t : TypeId) : Option Nat := (P.info? t).map (·.size)
def byOf (t : TypeId) : Option Nat := (P.info? t).map (·.bytes)
def zeroOf (t : TypeId) : Option AV := (P.info? t).bind fun i => i.zero.bind ofV
def aggT (t : TypeId) : Option Bool := match P.underlying t with
  | some (.struct _) | some (.array _ _) => some true
  | some _ => some false
  | none => none
/-- The element type of a slice type: its size in cells and its bytes. -/
def elemT (t : TypeId) : Option (TypeId × Nat × Nat) := match P.underlying t with
  | some (.slice e) => match szOf P e, byOf P e with
    | some s, some b => some (e, s, b)
    | _, _ => none
  | _ => none
/-- A field's offset and size in cells. -/
def fieldT (t : TypeId) (f : Nat) : Option (Nat × Nat × TypeId) := match P.underlying t with
  | some (.struct fs) => match fs[f]? with
    | some fd => match szOf P fd.type with
      | some s => if s = 0 then none else some (fd.offset, s, fd.type)
      | none => none
    | none => none
  | _ => none

def partA (t : TypeId) (cs : List AV) (off : Nat) : Option AV :=
  match aggT P t with
  | some true => match szOf P t with
    | some n => if off + n ≤ cs.length then some (.agg ((cs.drop off).take n)) else none
    | none => none
  | some false => cs[off]?
  | none => none

/-- The elements of a slice, each of 'sz' cells. -/
def elems (σ : St) (sz : Nat) : AV → Option (List AV)
  | .list _ s xs => if s == sz || xs.isEmpty then some xs else none
  | .row s id gen off len _ => match σ[id]? with
    | some (.row _ xs) => if s == sz && gen == xs.length then some ((xs.drop off).take len) else none
    | _ => none
  | _ => none

def loadAt (env : Env) (σ : St) (t : TypeId) : Slot → Option AV
  | .plc s off => match env[s]? with
    | some (.var cs) => partA P t cs off
    | _ => none
  | .val (.ptr id off) => match σ[id]? with
    | some (.cells cs) => partA P t cs off
    | _ => none
  | .val (.elm s sz i off) => match elems σ sz s with
    | some xs => match xs[i]? with
      | some x => partA P t x.cells off
      | none => none
    | none => none
  | _ => none

def splice (cs : List AV) (off : Nat) (vs : List AV) : Option (List AV) :=
  if off + vs.length ≤ cs.length then some (cs.take off ++ vs ++ cs.drop (off + vs.length)) else none

def setCells (x : AV) (off : Nat) (vs : List AV) : Option AV :=
  match x with
  | .agg cs => (splice cs off vs).map .agg
  | _ => match off, vs with
    | 0, [v] => some v
    | _, _ => none

/-- 'base': objects below it may not be written. -/
def storeAt (base : Nat) (env : Env) (σ : St) (t : TypeId) (a : Slot) (v : AV) : Option (Env × St) :=
  if szOf P t == some v.cells.length then
    match a with
    | .plc s off => match env[s]? with
      | some (.var cs) => match splice cs off v.cells with
        | some cs' => some (env.set s (.var cs'), σ)
        | none => none
      | _ => none
    | .val (.ptr id off) => if base ≤ id then match σ[id]? with
        | some (.cells cs) => match splice cs off v.cells with
          | some cs' => some (env, σ.set id (.cells cs'))
          | none => none
        | _ => none
      else none
    | .val (.elm (.row s id gen o len _) sz i off) => if base ≤ id then match σ[id]? with
        | some (.row _ xs) => if s == sz && gen == xs.length && decide (i < len) then match xs[o + i]? with
            | some x => match setCells x off v.cells with
              | some x' => some (env, σ.set id (.row sz (xs.set (o + i) x')))
              | none => none
            | none => none
          else none
        | _ => none
      else none
    | _ => none
  else none

def appendTo (base : Nat) (σ : St) (sz bytes : Nat) (s : AV) (ys : List AV) : Option (AV × St) :=
  match s with
  | .list full s' [] =>
    if ys.length * bytes ≤ 140737488355328 && decide (0 < sz) then
      if full then some (.row sz σ.length ys.length 0 ys.length false, σ ++ [.row sz ys])
      else if ys.isEmpty then some (.list full s' [], σ) else none
    else none
  | .list full s' (x :: xs) =>
    if ys.isEmpty then some (.list full s' (x :: xs), σ)
    else if full && s' == sz && decide (((x :: xs).length + ys.length) * bytes ≤ 140737488355328) && decide (0 < sz) then
      some (.row sz σ.length ((x :: xs).length + ys.length) 0 ((x :: xs).length + ys.length) false, σ ++ [.row sz ((x :: xs) ++ ys)])
    else none
  | .row s' id gen off len lim =>
    match σ[id]? with
    | some (.row _ xs) =>
      if s' == sz && gen == xs.length && decide ((len + ys.length) * bytes ≤ 140737488355328) && decide (0 < sz) then
        if lim then
          if ys.isEmpty then some (.row sz id gen off len lim, σ)
          else some (.row sz σ.length (len + ys.length) 0 (len + ys.length) false, σ ++ [.row sz ((xs.drop off).take len ++ ys)])
        else if base ≤ id then
          if off == 0 && len == gen then some (.row sz id (gen + ys.length) 0 (gen + ys.length) false, σ.set id (.row sz (xs ++ ys)))
          else if off + len + ys.length ≤ gen then
            some (.row sz id gen off (len + ys.length) false, σ.set id (.row sz (xs.take (off + len) ++ ys ++ xs.drop (off + len + ys.length))))
          else if off == 0 then some (.row sz id (len + ys.length) 0 (len + ys.length) false, σ.set id (.row sz (xs.take len ++ ys)))
          else none
        else none
      else none
    | _ => none
  | _ => none

/-- 's[lo:hi:mx]'. -/
def sliceOf (sz : Nat) (s : AV) (lo : Option Int) (hi : Option Int) (mx : Option Int) : Option AV :=
  let go (len : Nat) (k : Nat → Nat → Option Nat → Option AV) : Option AV :=
    let h : Int := hi.getD len
    let l : Int := lo.getD 0
    match mx with
    | none => if 0 ≤ l ∧ l ≤ h ∧ h ≤ len then k l.toNat h.toNat none else none
    | some m => if 0 ≤ l ∧ l ≤ h ∧ h ≤ m ∧ m ≤ len ∧ hi.isSome then k l.toNat h.toNat (some m.toNat) else none
  match s with
  | .list full s xs => if s == sz || xs.isEmpty then go xs.length fun l h m => match m with
    | none => some (.list (full && h == xs.length) s ((xs.drop l).take (h - l)))
    | some m => some (.list (m == h) s ((xs.drop l).take (h - l)))
    else none
  | .row s id gen off len lim => if s == sz then go len fun l h m => match m with
    | none => if lim && h != len then none else some (.row s id gen (off + l) (h - l) lim)
    | some m => if m == h then some (.row s id gen (off + l) (h - l) true) else none
    else none
  | _ => none

def cellEq : AV → AV → Option Bool
  | .int k a, .int k' b => if k = k' then some (a == b) else none
  | .bool a, .bool b => some (a == b)
  | .str a, .str b => some (a.toList == b.toList)
  | _, _ => none

def cellsEq : List AV → List AV → Option Bool
  | [], [] => some true
  | x :: xs, y :: ys => match cellEq x y with
    | some true => cellsEq xs ys
    | some false => some false
    | none => none
  | _, _ => none

def keyEq : AV → AV → Option Bool
  | .agg xs, .agg ys => cellsEq xs ys
  | a, b => cellEq a b

def findE (k : AV) : List (AV × AV) → Nat → Option (Option (Nat × AV))
  | [], _ => some none
  | (k', v) :: es, i => match keyEq k k' with
    | some true => some (some (i, v))
    | some false => findE k es (i + 1)
    | none => none

def basicT (t : TypeId) : Bool := match P.underlying t with
  | some .bool | some (.int _) | some .string => true
  | _ => false

def flatFs : List Field → Nat → Bool
  | [], _ => true
  | f :: fs, i => basicT P f.type && f.offset == i && f.name != "_" && szOf P f.type == some 1 && flatFs fs (i + 1)

/-- A struct whose fields are integers, bools or strings, one cell each. -/
def flatT (t : TypeId) : Bool := match P.underlying t with
  | some (.struct fs) => flatFs P fs.toList 0 && szOf P t == some fs.size && !P.stoodInHeld t && !P.eqGuardType P.depth t
  | _ => false

/-- A cell of a basic type. -/
def cellOk (t : TypeId) : AV → Bool
  | .bool _ => match P.underlying t with
    | some .bool => true
    | _ => false
  | .int _ _ => match P.underlying t with
    | some (.int _) => true
    | _ => false
  | .str _ => match P.underlying t with
    | some .string => true
    | _ => false
  | _ => false

def cellsOk : List Field → List AV → Bool
  | [], [] => true
  | f :: fs, c :: cs => cellOk P f.type c && cellsOk fs cs
  | _, _ => false

/-- The key's type, as far as it is served: an integer, a bool, a string, or such a struct; the key's cells are of its fields' types. -/
def keyOk (t : TypeId) : AV → Bool
  | .agg cs => match P.underlying t with
    | some (.struct fs) => flatT P t && cellsOk P fs.toList cs
    | _ => false
  | k => cellOk P t k

def binA (op : BinOp) (t : TypeId) : AV → AV → Option AV
  | .int k a, .int k' b =>
    match op with
    | .shl => if b < 0 then none else some (.int k (k.wrap (a * 2 ^ (min b.toNat k.bits))))
    | .shr => if b < 0 then none else some (.int k (a.fdiv (2 ^ (min b.toNat k.bits))))
    | _ => if k = k' then
        match op with
        | .add => some (.int k (k.wrap (a + b)))
        | .sub => some (.int k (k.wrap (a - b)))
        | .mul => some (.int k (k.wrap (a * b)))
        | .quo => if b = 0 then none else some (.int k (k.wrap (a.tdiv b)))
        | .rem => if b = 0 then none else some (.int k (a.tmod b))
        | .eql => some (.bool (a == b))
        | .neq => some (.bool (a != b))
        | .lss => some (.bool (decide (a < b)))
        | .leq => some (.bool (decide (a ≤ b)))
        | .gtr => some (.bool (decide (a > b)))
        | .geq => some (.bool (decide (a ≥ b)))
        | _ => none
      else none
  | .str a, .str b => match op with
    | .eql => some (.bool (a.toList == b.toList))
    | .neq => some (.bool !(a.toList == b.toList))
    | _ => none
  | .bool a, .bool b => match P.underlying t, op with
    | some .bool, .eql => some (.bool (a == b))
    | some .bool, .neq => some (.bool !(a == b))
    | _, _ => none
  | .agg xs, .agg ys => if keyOk P t (.agg xs) then
      match op with
      | .eql => (cellsEq xs ys).map .bool
      | .neq => (cellsEq xs ys).map fun b => .bool !b
      | _ => none
    else none
  | .nilp, .nilp => match P.underlying t, op with
    | some (.pointer _), .eql => some (.bool true)
    | some (.pointer _), .neq => some (.bool false)
    | _, _ => none
  | .ptr _ _, .nilp => match P.underlying t, op with
    | some (.pointer _), .eql => some (.bool false)
    | some (.pointer _), .neq => some (.bool true)
    | _, _ => none
  | .nilp, .ptr _ _ => match P.underlying t, op with
    | some (.pointer _), .eql => some (.bool false)
    | some (.pointer _), .neq => some (.bool true)
    | _, _ => none
  | .map r, .map none => match P.underlying t, op with
    | some (.map _ _), .eql => some (.bool r.isNone)
    | some (.map _ _), .neq => some (.bool !r.isNone)
    | _, _ => none
  | _, _ => none

def unA (op : UnOp) : AV → Option AV
  | .int k n => match op with
    | .neg => some (.int k (k.wrap (0 - n)))
    | _ => none
  | .bool b => match op with
    | .not => some (.bool !b)
    | _ => none
  | _ => none

/-- The parts of a composite literal, laid over the zero value's cells. -/
def fillA (place : Nat → Option (Nat × Nat)) (cells : List AV) : List (Nat × AV) → Option (List AV)
  | [] => some cells
  | (i, v) :: rest => match place i with
    | none => none
    | some (off, size) => if v.cells.length == size then
        match splice cells off v.cells with
        | some cs => fillA place cs rest
        | none => none
      else none

def lookParts (env : Env) : List (Nat × Operand) → Option (List (Nat × AV))
  | [] => some []
  | (i, x) :: ps => match lookV env x, lookParts env ps with
    | some v, some vs => some ((i, v) :: vs)
    | _, _ => none

/-- Where a struct's field lies: its offset and its size. -/
def placeA (fs : Array Field) (i : Nat) : Option (Nat × Nat) := match fs[i]? with
  | some f => (szOf P f.type).map fun s => (f.offset, s)
  | none => none

def buildA (t : TypeId) (ps : List (Nat × AV)) : Option AV :=
  match P.underlying t, zeroOf P t with
  | some (.struct fs), some z => if fs.toList.all fun f => (szOf P f.type).isSome then (fillA (placeA P fs) z.cells ps).map .agg else none
  | some (.array _ e), some z => match szOf P e with
    | some s => (fillA (fun i => some (i * s, s)) z.cells ps).map .agg
    | none => none
  | _, _ => none

/-- The elements of '[]T{..}': every one of them is given, in order. -/
def listA (sz : Nat) : Nat → List (Nat × AV) → Option (List AV)
  | _, [] => some []
  | n, (i, v) :: ps => if i == n && v.cells.length == sz then (listA sz (n + 1) ps).map (v :: ·) else none

def asN : AV → Option Int
  | .int .i64 n => some n
  | _ => none

def optN (env : Env) : Option Operand → Option (Option Int)
  | none => some none
  | some x => match lookV env x with
    | some (.int .i64 n) => some (some n)
    | _ => none

end
end Go.Can

namespace Go.Can

section
variable (P : Program)

def lenA (σ : St) : AV → Option Nat
  | .list _ _ xs => some xs.length
  | .row _ _ _ _ len _ => some len
  | .str s => some s.size
  | .map none => some 0
  | .map (some id) => match σ[id]? with
    | some (.map es) => some es.length
    | _ => none
  | _ => none

/-- Does 'len' at this type look into a map? -/
def lenMap (t : TypeId) : Bool := match P.underlying t with
  | some (.map _ _) => true
  | _ => false

def Slot.isPlc : Slot → Bool
  | .plc _ _ => true
  | _ => false

/-- An address is the one of the variable that the text says, or of none. -/
def adrOk (bs : Tmp → Option Tmp) : Operand → Slot → Bool
  | .tmp t, .plc s _ => bs t == some s
  | .tmp t, _ => bs t == none
  | _, _ => false

/-- The operation's own slot is not a variable that lives. -/
def okDst (env : Env) (d : Option Tmp) : Bool := match d with
  | some d => match env[d]? with
    | some (.var _) => false
    | some _ => true
    | none => false
  | none => true

def isv? (isv : Tmp → Bool) : Option Tmp → Bool
  | some d => isv d
  | none => false

def Slot.isPtr : Slot → Bool
  | .val (.ptr _ _) => true
  | _ => false

/-- A load whose slot is marked reads an object of cells alone. -/
def ldOk (isv : Tmp → Bool) (d : Option Tmp) (s : Slot) : Bool := !isv? isv d || s.isPtr

/-- Does the operation lay a new object of the small heap? -/
def allocs (isv : Tmp → Bool) (o : Oper) : Bool := match o.op with
  | .makeSlice .. | .makeMap .. => true
  | .alloc _ | .box .. => !isv? isv o.dst
  | _ => false

def fresh (σ : St) (nid : Nat) : Bool := match σ[nid]? with
  | some .none => true
  | _ => false

def lowMapOk (t : TypeId) : Option (TypeId × TypeId) := match P.underlying t with
  | some (.map k e) => some (k, e)
  | _ => none

def mapGet (σ : St) (t : TypeId) (x k : AV) : Option (Option AV) :=
  match lowMapOk P t with
  | some (kt, _) => if keyOk P kt k then match x with
      | .map none => some none
      | .map (some id) => match σ[id]? with
        | some (.map es) => (findE k es 0).map fun r => r.map (·.2)
        | _ => none
      | _ => none
    else none
  | none => none

def mapPut (base : Nat) (σ : St) (t : TypeId) (x k v : AV) : Option St :=
  match lowMapOk P t with
  | some (kt, _) => if keyOk P kt k then match x with
      | .map (some id) => if base ≤ id then match σ[id]? with
          | some (.map es) => match findE k es 0 with
            | some (some (i, _)) => some (σ.set id (.map (es.set i (k, v))))
            | some none => some (σ.set id (.map (es ++ [(k, v)])))
            | none => none
          | _ => none
        else none
      | _ => none
    else none
  | none => none

def mapDel (base : Nat) (σ : St) (t : TypeId) (x k : AV) : Option St :=
  match lowMapOk P t with
  | some (kt, _) => if keyOk P kt k then match x with
      | .map (some id) => if base ≤ id then match σ[id]? with
          | some (.map es) => match findE k es 0 with
            | some (some (i, _)) => some (σ.set id (.map (es.eraseIdx i)))
            | some none => some σ
            | none => none
          | _ => none
        else none
      | _ => none
    else none
  | none => none

def orZero (r z : Option AV) : Option AV := match r with
  | some v => some v
  | none => z

/-- The zero value of this type has so many cells. -/
def zeroOk (e : TypeId) (sz : Nat) : Bool := match zeroOf P e with
  | some z => z.cells.length == sz && decide (0 < sz)
  | none => false

/-- A slice's length. -/
def lenS : AV → Option Nat
  | .list _ _ xs => some xs.length
  | .row _ _ _ _ len _ => some len
  | _ => none

/-- A slice that has an element, compared with 'nil'. -/
def nilEq (op : BinOp) (t : TypeId) (y : Operand) (a : AV) : Bool := match op, y, a, P.underlying t with
  | .eql, .const (.slice none 0 0), .list _ _ (_ :: _), some (.slice _) => true
  | _, _, _, _ => false

abbrev CallF := FuncId → List AV → St → Nat → Option (AV × St)

def evalBuiltin (base : Nat) (b : Builtin) (ts : List TypeId) (σ : St) (args : List AV) : Option (AV × St) :=
  match b, ts, args with
  | .append, [t, t'], [s, x] => match elemT P t, elemT P t' with
    | some (e, sz, bytes), some _ => if zeroOk P e sz && decide (0 < bytes) then match elems σ sz x with
      | some ys => appendTo base σ sz bytes s ys
      | none => none
      else none
    | _, _ => none
  | .len, [t], [x] => match P.underlying t with
    | some (.slice _) => match lenS x with
      | some n => some (.int .i64 n, σ)
      | none => none
    | some .string => match x with
      | .str s => some (.int .i64 s.size, σ)
      | _ => none
    | some (.map _ _) => match x with
      | .map none => some (.int .i64 0, σ)
      | .map (some id) => match σ[id]? with
        | some (.map es) => some (.int .i64 es.length, σ)
        | _ => none
      | _ => none
    | _ => none
  | .delete, t :: _, [x, k] => match mapDel P base σ t x k with
    | some σ' => some (.tup [], σ')
    | none => none
  | _, _, _ => none

def evalV (call : CallF) (base : Nat) (isv : Tmp → Bool) (bs : Tmp → Option Tmp) (nid : Nat) (env : Env) (σ : St) (o : Oper) : Option (St × Slot) :=
  match o.op with
  | .move x | .assign x => match look env x with
    | .top => none
    | s => some (σ, s)
  | .pick c a b => match lookV env c with
    | some (.bool t) => match lookV env (if t then a else b) with
      | some v => some (σ, .val v)
      | none => none
    | _ => none
  | .alloc e => match zeroOf P e with
    | some z => if isv? isv o.dst then some (σ, .var z.cells)
      else if fresh σ nid && decide (base ≤ nid) then some (σ.set nid (.cells z.cells), .val (.ptr nid 0)) else none
    | none => none
  | .box _ x => match lookV env x with
    | some z => if isv? isv o.dst then some (σ, .var z.cells)
      else if fresh σ nid && decide (base ≤ nid) then some (σ.set nid (.cells z.cells), .val (.ptr nid 0)) else none
    | none => none
  | .build t ps => match lookParts env ps.toList with
    | some vs => match buildA P t vs with
      | some v => some (σ, .val v)
      | none => none
    | none => none
  | .buildSlice t n ps => match elemT P t, lookParts env ps.toList with
    | some (e, sz, _), some vs => if vs.length == n && decide (n * sz ≤ 16777216) && (zeroOf P e).isSome && decide (0 < sz) then match listA sz 0 vs with
        | some xs => some (σ, .val (.list true sz xs))
        | none => none
      else none
    | _, _ => none
  | .load t a => if adrOk bs a (look env a) && ldOk isv o.dst (look env a) then match loadAt P env σ t (look env a) with
      | some v => some (σ, .val v)
      | none => none
    else none
  | .nilCheck x => match look env x with
    | .plc s off => some (σ, .plc s off)
    | .val (.ptr id off) => some (σ, .val (.ptr id off))
    | .val (.elm s sz i off) => some (σ, .val (.elm s sz i off))
    | .val (.fn f fi c) => some (σ, .val (.fn f fi c))
    | _ => none
  | .binOp op t x y _ => match lookV env x, lookV env y with
    | some a, some b => match binA P op t a b with
      | some v => some (σ, .val v)
      | none => if nilEq P op t y a then some (σ, .val (.bool false)) else none
    | _, _ => none
  | .unOp op _ x => match lookV env x with
    | some a => match unA op a with
      | some v => some (σ, .val v)
      | none => none
    | none => none
  | .convert t d x => match P.underlying t, P.underlying d, lookV env x with
    | some (.int _), some (.int k), some (.int _ n) => some (σ, .val (.int k (k.wrap n)))
    | _, _, _ => none
  | .makeFunc (.func f) first cap => match lookVs env first.toList, lookVs env cap.toList with
    | some a, some b => if (a.all fun v => match v with | .agg _ => false | _ => true) && (b.all fun v => match v with | .agg _ => false | _ => true) then some (σ, .val (.fn f a b)) else none
    | _, _ => none
  | .makeMap t none => match lowMapOk P t with
    | some _ => if fresh σ nid && decide (base ≤ nid) then some (σ.set nid (.map []), .val (.map (some nid))) else none
    | none => none
  | .makeMap t (some r) => match lowMapOk P t, lookV env r with
    | some _, some (.int _ _) => if fresh σ nid && decide (base ≤ nid) then some (σ.set nid (.map []), .val (.map (some nid))) else none
    | _, _ => none
  | .makeSlice t l c => match elemT P t, lookV env l, lookV env c with
    | some (e, sz, bytes), some (.int .i64 n), some (.int .i64 m) => match zeroOf P e with
      | some z => if 0 ≤ n ∧ n ≤ m ∧ m * bytes ≤ 140737488355328 ∧ m ≤ 140737488355328 ∧ 0 < sz ∧ z.cells.length = sz ∧ fresh σ nid = true ∧ base ≤ nid then
          some (σ.set nid (.row sz (List.replicate n.toNat z)), .val (.row sz nid n.toNat 0 n.toNat false)) else none
      | none => none
    | _, _, _ => none
  | .slice t x lo hi mx => match elemT P t, lookV env x, optN env lo, optN env hi, optN env mx with
    | some (_, sz, _), some s, some l, some h, some m => match sliceOf sz s l h m with
      | some v => some (σ, .val v)
      | none => none
    | _, _, _, _, _ => none
  | .fieldAddr t x f => match fieldT P t f, look env x with
    | some (o, _, _), .plc s off => some (σ, .plc s (off + o))
    | some (o, _, _), .val (.ptr id off) => some (σ, .val (.ptr id (off + o)))
    | some (o, _, _), .val (.elm s sz i off) => some (σ, .val (.elm s sz i (off + o)))
    | _, _ => none
  | .field t x f => match fieldT P t f, lookV env x with
    | some (o, _, ft), some (.agg cs) => match partA P ft cs o with
      | some v => some (σ, .val v)
      | none => none
    | _, _ => none
  | .indexAddr t x i => match elemT P t, lookV env x, lookV env i with
    | some (_, sz, _), some s, some (.int _ n) => match lenS s with
      | some len => if 0 ≤ n ∧ n < len then some (σ, .val (.elm s sz n.toNat 0)) else none
      | none => none
    | _, _, _ => none
  | .lookup t x k ok => match lookV env x, lookV env k with
    | some m, some kv => match mapGet P σ t m kv with
      | some r => match lowMapOk P t with
        | some (_, e) => match orZero r (zeroOf P e) with
          | some v => if ok then some (σ, .val (.tup [v, .bool r.isSome])) else some (σ, .val v)
          | none => none
        | none => none
      | none => none
    | _, _ => none
  | .mapUpdate t m k x => match lookV env m, lookV env k, lookV env x with
    | some mv, some kv, some v => match mapPut P base σ t mv kv v with
      | some σ' => some (σ', .und)
      | none => none
    | _, _, _ => none
  | .extract x i => match look env x with
    | .val (.tup vs) => match vs[i]? with
      | some v => some (σ, .val v)
      | none => none
    | _ => none
  | .call c => match lookVs env c.args.toList with
    | some args => match c.callee with
      | .builtin b => match evalBuiltin P base b c.argTypes.toList σ args with
        | some (v, σ') => some (σ', .val v)
        | none => none
      | .value f => match lookV env f with
        | some (.fn g first cap) => match call g (first ++ args ++ cap) σ base with
          | some (v, σ') => some (σ', .val v)
          | none => none
        | _ => none
      | .invoke .. => none
    | none => none
  | _ => none

/-- A store changes a local variable, or an object. -/
def evalS (base : Nat) (bs : Tmp → Option Tmp) (env : Env) (σ : St) (t : TypeId) (a x : Operand) : Option (Env × St) :=
  if adrOk bs a (look env a) then match lookV env x with
    | some v => storeAt P base env σ t (look env a) v
    | none => none
  else none

def evalOp (call : CallF) (base : Nat) (isv : Tmp → Bool) (bs : Tmp → Option Tmp) (nid : Nat) (env : Env) (σ : St) (o : Oper) : Option (Env × St × Slot) :=
  match o.op with
  | .store t a x => match evalS P base bs env σ t a x with
    | some (env', σ') => some (env', σ', .und)
    | none => none
  | _ => match evalV P call base isv bs nid env σ o with
    | some (σ', sl) => some (env, σ', sl)
    | none => none

/-- Is the operation's guard met? none: it is not known. -/
def wantedA (ops : List Oper) (env : Env) (o : Oper) : Option Bool :=
  match o.guard with
  | none => some true
  | some (j, want) => match (ops[j]?).bind (·.dst) with
    | none => some false
    | some d => match env[d]? with
      | some (.val (.bool b)) => some (b == want)
      | some .und => some false
      | some (.val (.int _ _)) => some false
      | _ => none

def putA (env : Env) : Option Tmp → Slot → Env
  | some d, s => env.set d s
  | none, _ => env

/-- The static address words of a region: which temporaries hold the address of a local variable, and of which one. -/
def baseOf (isv : Tmp → Bool) : List Oper → List (Tmp × Tmp) → List (Tmp × Tmp)
  | [], acc => acc
  | o :: os, acc => match o.op, o.dst with
    | .fieldAddr _ (.tmp t) _, some d =>
      if isv t then baseOf isv os ((d, t) :: acc)
      else match acc.lookup t with
        | some b => baseOf isv os ((d, b) :: acc)
        | none => baseOf isv os acc
    | _, _ => baseOf isv os acc

def baseAt (isv : Tmp → Bool) (bs : List (Tmp × Tmp)) (t : Tmp) : Option Tmp := if isv t then some t else bs.lookup t

def stepA (call : CallF) (base : Nat) (isv : Tmp → Bool) (bs : Tmp → Option Tmp) (ops : List Oper) (n0 : Nat) (i : Nat) (s : Env × St) : Option (Env × St) :=
  match ops[i]? with
  | none => some s
  | some o => if okDst s.1 o.dst then match wantedA ops s.1 o with
    | some true => match evalOp P call base isv bs (n0 + (ops.take i).countP (allocs isv)) s.1 s.2 o with
      | some (env, σ, sl) => some (putA env o.dst sl, σ)
      | none => none
    | some false => some (putA s.1 o.dst .und, s.2)
    | none => none
    else none

def runA (step : Nat → Env × St → Option (Env × St)) : List Nat → Env × St → Option (Env × St)
  | [], s => some s
  | i :: is, s => match step i s with
    | some s' => runA step is s'
    | none => none

/-! The order of a region's operations: what makes two of them exchangeable. -/

inductive HC where
  | no | rd | call | new | wr | grow | rdc | app

def hcOf (pure grow : FuncId → Bool) (isv : Tmp → Bool) (bs : Tmp → Option Tmp) (o : Oper) : HC := match o.op with
  | .load _ (.tmp t) => if (bs t).isSome then .no else if isv? isv o.dst then .rdc else .rd
  | .store _ (.tmp t) _ => if (bs t).isSome then .no else .wr
  | .lookup .. => .rd
  | .mapUpdate .. => .wr
  | .makeSlice .. | .makeMap .. => .new
  | .alloc _ | .box .. => if isv? isv o.dst then .no else .new
  | .call { callee := .builtin .len, argTypes := ts, .. } => match ts.toList with
    | [t] => if lenMap P t then .rd else .no
    | _ => .wr
  | .call { callee := .builtin .append, .. } => .app
  | .call { callee := .value (.func f), .. } => if pure f then .call else if grow f then .grow else .wr
  | .call _ => .wr
  | .load .. | .store .. => .wr
  | _ => .no

def HC.ok : HC → HC → Bool
  | .no, _ | _, .no => true
  | .rd, .rd | .rd, .call | .call, .rd | .call, .call => true
  | .rd, .new => true
  | .rd, .grow => true
  | .rdc, .rd | .rd, .rdc | .rdc, .rdc | .rdc, .call | .call, .rdc | .rdc, .new | .rdc, .grow | .rdc, .app => true
  | .new, .new => true
  | _, _ => false

def readsOf (bs : Tmp → Option Tmp) (ops : List Oper) (o : Oper) : List Tmp :=
  o.op.operands.toList.filterMap (fun | .tmp t => some t | _ => none) ++
  (match o.op with
    | .load _ (.tmp t) | .store _ (.tmp t) _ => (bs t).toList
    | .alloc _ | .box .. => o.dst.toList
    | _ => []) ++
  (match o.guard with
    | some (j, _) => ((ops[j]?).bind (·.dst)).toList
    | none => [])

def writesOf (bs : Tmp → Option Tmp) (o : Oper) : List Tmp :=
  o.dst.toList ++ (match o.op with
    | .store _ (.tmp t) _ => (bs t).toList
    | _ => [])

def disj (a b : List Tmp) : Bool := a.all fun x => !b.contains x

/-- 'x' stands before 'y' in the text: may 'y' be carried out first? -/
def indep (pure grow : FuncId → Bool) (isv : Tmp → Bool) (bs : Tmp → Option Tmp) (ops : List Oper) (x y : Oper) : Bool :=
  disj (writesOf bs x) (readsOf bs ops y) && disj (writesOf bs x) (writesOf bs y) && disj (writesOf bs y) (readsOf bs ops x) &&
  HC.ok (hcOf P pure grow isv bs x) (hcOf P pure grow isv bs y)

/-- Every two operations of the region that its edges leave open are exchangeable. -/
def regionOk (pure grow : FuncId → Bool) (isv : Tmp → Bool) (bs : Tmp → Option Tmp) (ops : Array Oper) : Bool :=
  let b := Region.before ops
  (List.range ops.size).all fun j => match ops[j]? with
    | none => true
    | some y => (y.after.toList.all fun e => !Region.binds .any e || decide (e.on < j)) && (List.range j).all fun i => match ops[i]? with
      | none => true
      | some x => if (b.getD j 0).testBit i then y.after.toList.any fun e => Region.binds .any e && (e.on == i || (decide (i < e.on) && (b.getD e.on 0).testBit i))
        else indep P pure grow isv bs ops.toList x y

/-! Code. -/

inductive Out where
  | normal
  | exit (id : Nat)
  | ret

abbrev S := Env × St

def clearA (keep : Tmp → Bool) : List Oper → Env → Env
  | [], env => env
  | o :: os, env => match o.dst with
    | some d => clearA keep os (if keep d then env else match env[d]? with
      | some (.var _) => env
      | _ => env.set d .top)
    | none => clearA keep os env

/-- What of the frame is kept at a loop's head: the slots that 'live' names; none of them may be the address of a variable. -/
def maskA (live : Tmp → Bool) : Nat → Env → Option Env
  | _, [] => some []
  | i, s :: env => match maskA live (i + 1) env with
    | none => none
    | some env' => if live i then match s with
        | .plc _ _ => none
        | s => some (s :: env')
      else some (.top :: env')

/-- One round of a loop: its head, its body. -/
def roundA (mk : Code → Option Out → Env → Option Env) (ex : S → Option (Out × S)) (a : Code) (s : S) : Option (Out × S) := match mk a none s.1 with
  | some e => ex (e, s.2)
  | none => none

def execC (rg : Nat → Array Oper → Bool → S → Option S) (mk : Code → Option Out → Env → Option Env) (lp : (S → Option (Out × S)) → S → Option (Out × S)) : Code → S → Option (Out × S)
  | .skip, s => some (.normal, s)
  | .label _, s => some (.normal, s)
  | .region id ops d, s => match rg id ops d s with
    | some s' => some (.normal, s')
    | none => none
  | .seq a b, s => match execC rg mk lp a s with
    | some (.normal, s') => execC rg mk lp b s'
    | r => r
  | .cond c a b, s => match lookV s.1 c with
    | some (.bool true) => execC rg mk lp a s
    | some (.bool false) => execC rg mk lp b s
    | _ => none
  | .block id a, s => match execC rg mk lp a s with
    | some (.exit i, s') => if i = id then some (.normal, s') else some (.exit i, s')
    | r => r
  | .loop a, s => match lp (roundA mk (execC rg mk lp a) a) s with
    | some (out, s') => match mk a (some out) s'.1 with
      | some e => some (out, e, s'.2)
      | none => none
    | none => none
  | .exit id, s => some (.exit id, s)
  | .ret, s => some (.ret, s)
  | _, _ => none

def loopN (body : S → Option (Out × S)) : Nat → S → Option (Out × S)
  | 0, _ => none
  | n + 1, s => match body s with
    | some (.normal, s') => loopN body n s'
    | r => r

/-! Calls. -/

/-- What a user of the evaluator lays down of each function: which slots are local variables that no address leaves; which slots live behind the region that writes them; which slots live at a loop's head, and behind it; which functions leave no object behind; which ones write into none that stands when they are called; functions that stand for themselves. -/
structure Cfg where
  vars : FuncId → List Tmp
  keep : FuncId → List Tmp
  live : FuncId → Code → Option Out → List Tmp
  pure : FuncId → Bool
  grow : FuncId → Bool
  prim : FuncId → Option (List AV → St → Nat → Option (AV × St))

def regionA (cf : Cfg) (call : CallF) (base : Nat) (f : FuncId) (_id : Nat) (ops : Array Oper) (draw : Bool) (s : S) : Option S :=
  let isv := fun t => (cf.vars f).contains t
  let bl := baseOf isv ops.toList []
  let bs := baseAt isv bl
  if !draw || regionOk P cf.pure cf.grow isv bs ops then
    match runA (stepA P call base isv bs ops.toList s.2.length) (List.range ops.size) (s.1, s.2 ++ List.replicate (ops.toList.countP (allocs isv)) .none) with
    | some (env, σ) => some (clearA (fun t => (cf.keep f).contains t) ops.toList env, σ)
    | none => none
  else none

def resOf (env : Env) (σ : St) : List ResultVar → Option (List AV)
  | [] => some []
  | .tmp t :: rs => match lookV env (.tmp t), resOf env σ rs with
    | some v, some vs => some (v :: vs)
    | _, _ => none
  | .cell a t :: rs => match loadAt P env σ t (look env (.tmp a)), resOf env σ rs with
    | some v, some vs => some (v :: vs)
    | _, _ => none

def mkRes : List AV → AV
  | [v] => v
  | vs => .tup vs

/-- A result of a function that leaves no object behind: its own rows become lists. -/
def freezeL (fz : AV → Option AV) : List AV → Option (List AV)
  | [] => some []
  | v :: vs => match fz v, freezeL fz vs with
    | some a, some as => some (a :: as)
    | _, _ => none

def freeze (base : Nat) (σ : St) : Nat → AV → Option AV
  | 0, _ => none
  | n + 1, v => match v with
    | .int .. | .bool _ | .str _ | .nilp | .nilf | .nili | .map none => some v
    | .list f sz xs => (freezeL (freeze base σ n) xs).map (.list f sz)
    | .agg cs => (freezeL (freeze base σ n) cs).map .agg
    | .tup vs => (freezeL (freeze base σ n) vs).map .tup
    | .row sz id gen off len lim => if id < base then some (.row sz id gen off len lim) else
        match elems σ sz (.row sz id gen off len lim) with
        | some xs => (freezeL (freeze base σ n) xs).map (.list false sz)
        | none => none
    | .ptr id off => if id < base then some (.ptr id off) else none
    | .map (some id) => if id < base then some (.map (some id)) else none
    | .fn f [] [] => some (.fn f [] [])
    | _ => none

def bodyA (cf : Cfg) (call : CallF) (lp : (S → Option (Out × S)) → S → Option (Out × S)) (f : FuncId) (fn : Func) (c : Code) (args : List AV) (σ : St) (base : Nat) : Option (AV × St) :=
  match execC (regionA P cf call base f) (fun c o e => maskA (fun t => (cf.live f c o).contains t) 0 e) lp c (args.map .val ++ List.replicate (fn.ntmps - args.length) .und, σ) with
  | some (.normal, s) | some (.ret, s) => match resOf P s.1 s.2 fn.results.toList with
    | some vs => some (mkRes vs, s.2)
    | none => none
  | _ => none

def enterA (cf : Cfg) (call : CallF) (lp : (S → Option (Out × S)) → S → Option (Out × S)) (f : FuncId) (args : List AV) (σ : St) (base : Nat) : Option (AV × St) :=
  match cf.prim f with
  | some p => p args σ base
  | none => match P.funcs[f]? with
    | some fn => match fn.body with
      | some c => if cf.pure f then
          match bodyA P cf call lp f fn c args (if args.isEmpty then [] else σ) (if args.isEmpty then [] else σ).length with
          | some (v, σ') => match freeze (if args.isEmpty then [] else σ).length σ' 6 v with
            | some v' => some (v', σ)
            | none => none
          | none => none
        else bodyA P cf call lp f fn c args σ (if cf.grow f then σ.length else base)
      | none => none
    | none => none

def callN (cf : Cfg) : Nat → CallF
  | 0 => fun _ _ _ _ => none
  | n + 1 => fun f args σ base => enterA P cf (callN cf n) (fun b s => loopN b n s) f args σ base

end
end Go.Can

namespace Go.Can

abbrev Mem := Nat → Nat → Option Value

structure Th where
  tr : Nat → Nat → Option (Option Nat × Nat × Nat)
  tc : Nat → Option Nat

/-- One cell. -/
inductive Cell (M : Mem) (θ : Th) : AV → Value → Prop
  | int (k : IntKind) (n : Int) : Cell M θ (.int k n) (.int k n)
  | bool (b : Bool) : Cell M θ (.bool b) (.bool b)
  | str (s : ByteArray) : Cell M θ (.str s) (.string s)
  | nilp : Cell M θ .nilp (.pointer none)
  | nilf : Cell M θ .nilf .nilFunc
  | nili : Cell M θ .nili .nilIface
  | list (full : Bool) (sz : Nat) (xs : List AV) (a : Option Addr) (cap : Nat) (u : Nat → Nat → Value)
      (hc : xs.length ≤ cap) (hm : cap ≤ maxLen) (hf : full = true → cap = xs.length) (hs : ∀ x ∈ xs, x.cells.length = sz)
      (ha : xs ≠ [] → ∃ g o, a = some ⟨g, o, none⟩ ∧ ∀ i x, xs[i]? = some x → ∀ j c, x.cells[j]? = some c → M g (o + (i * sz + j)) = some (u i j))
      (he : ∀ i x, xs[i]? = some x → ∀ j c, x.cells[j]? = some c → Cell M θ c (u i j)) : Cell M θ (.list full sz xs) (.slice a xs.length cap)
  | row (sz id gen off len : Nat) (lim : Bool) (a : Option Addr) (cap' cap : Nat) (b : Option Nat) (ht : θ.tr id gen = some (b, cap, sz))
      (h1 : off + len ≤ gen) (hg : gen ≤ cap) (hm : cap ≤ maxLen) (hb : b = none → cap = 0) (hc : cap' = if lim then len else cap - off)
      (ha : cap' = 0 ∨ ∃ g, b = some g ∧ a = some ⟨g, off * sz, none⟩) : Cell M θ (.row sz id gen off len lim) (.slice a len cap')
  | elm (s : AV) (sz i off g o len cap : Nat) (hs : Cell M θ s (.slice (some ⟨g, o, none⟩) len cap)) (hi : i < len) :
      Cell M θ (.elm s sz i off) (.pointer (some ⟨g, o + (i * sz + off), none⟩))
  | ptr (id off g : Nat) (h : θ.tc id = some g) : Cell M θ (.ptr id off) (.pointer (some ⟨g, off, none⟩))
  | mapN : Cell M θ (.map none) (.map none)
  | mapS (id g : Nat) (h : θ.tc id = some g) : Cell M θ (.map (some id)) (.map (some g))
  | fn (f : FuncId) (fi ca : List AV) (fu cu : Array Value) (hfs : fu.size = fi.length) (hcs : cu.size = ca.length)
      (hf : ∀ i c, fi[i]? = some c → Cell M θ c (fu.getD i undef)) (hc : ∀ i c, ca[i]? = some c → Cell M θ c (cu.getD i undef)) : Cell M θ (.fn f fi ca) (.func (.func f) fu cu)

def CellsR (M : Mem) (θ : Th) (cs : List AV) (us : Array Value) : Prop := us.size = cs.length ∧ ∀ i c, cs[i]? = some c → Cell M θ c (us.getD i undef)

/-- A value of one cell, or a struct's cells. -/
def RepA (M : Mem) (θ : Th) (v : AV) (u : Value) : Prop :=
  match v with
  | .agg cs => ∃ us, u = .agg us ∧ CellsR M θ cs us
  | v => Cell M θ v u

def Rep (M : Mem) (θ : Th) (v : AV) (u : Value) : Prop :=
  match v with
  | .tup vs => ∃ us : Array Value, u = .tuple us ∧ us.size = vs.length ∧ ∀ i c, vs[i]? = some c → RepA M θ c (us.getD i undef)
  | v => RepA M θ v u

def Mem.le (M M' : Mem) : Prop := ∀ g o v, M g o = some v → M' g o = some v
structure Th.le (θ θ' : Th) : Prop where
  tr : ∀ id gen x, θ.tr id gen = some x → θ'.tr id gen = some x
  tc : ∀ id g, θ.tc id = some g → θ'.tc id = some g

theorem Mem.le_refl (M : Mem) : M.le M := fun _ _ _ h => h
theorem Th.le_refl (θ : Th) : θ.le θ := ⟨fun _ _ _ h => h, fun _ _ h => h⟩
theorem Mem.le_trans {A B C : Mem} (h : A.le B) (k : B.le C) : A.le C := fun g o v e => k g o v (h g o v e)
theorem Th.le_trans {A B C : Th} (h : A.le B) (k : B.le C) : A.le C := ⟨fun i g x e => k.tr i g x (h.tr i g x e), fun i g e => k.tc i g (h.tc i g e)⟩

theorem Cell.mono {M M' : Mem} {θ θ' : Th} (hM : M.le M') (hθ : θ.le θ') {v : AV} {u : Value} (h : Cell M θ v u) : Cell M' θ' v u := by
  induction h with
  | int k n => exact .int k n
  | bool b => exact .bool b
  | str s => exact .str s
  | nilp => exact .nilp
  | nilf => exact .nilf
  | nili => exact .nili
  | list full sz xs a cap u hc hm hf hs ha _ ih =>
    refine .list full sz xs a cap u hc hm hf hs (fun hne => ?_) ih
    obtain ⟨g, o, e, h⟩ := ha hne
    exact ⟨g, o, e, fun i x hx j c hcc => hM _ _ _ (h i x hx j c hcc)⟩
  | row sz id gen off len lim a cap' cap b ht h1 hg hm hb hc ha => exact .row sz id gen off len lim a cap' cap b (hθ.tr _ _ _ ht) h1 hg hm hb hc ha
  | elm s sz i off g o len cap _ hi ih => exact .elm s sz i off g o len cap ih hi
  | ptr id off g h => exact .ptr id off g (hθ.tc _ _ h)
  | mapN => exact .mapN
  | mapS id g h => exact .mapS id g (hθ.tc _ _ h)
  | fn f fi ca fu cu h1 h2 _ _ ih1 ih2 => exact .fn f fi ca fu cu h1 h2 ih1 ih2

theorem CellsR.mono {M M' : Mem} {θ θ' : Th} (hM : M.le M') (hθ : θ.le θ') {cs : List AV} {us : Array Value} (h : CellsR M θ cs us) : CellsR M' θ' cs us :=
  ⟨h.1, fun i c hc => (h.2 i c hc).mono hM hθ⟩

theorem RepA.mono {M M' : Mem} {θ θ' : Th} (hM : M.le M') (hθ : θ.le θ') {v : AV} {u : Value} (h : RepA M θ v u) : RepA M' θ' v u := by
  unfold RepA at *
  split at h
  · obtain ⟨us, e, h⟩ := h; exact ⟨us, e, h.mono hM hθ⟩
  · exact h.mono hM hθ

theorem Rep.mono {M M' : Mem} {θ θ' : Th} (hM : M.le M') (hθ : θ.le θ') {v : AV} {u : Value} (h : Rep M θ v u) : Rep M' θ' v u := by
  unfold Rep at *
  split at h
  · obtain ⟨us, e, h1, h2⟩ := h; exact ⟨us, e, h1, fun i c hc => (h2 i c hc).mono hM hθ⟩
  · exact h.mono hM hθ

theorem Cell.oneCell {M : Mem} {θ : Th} {v : AV} {u : Value} (h : Cell M θ v u) : u.oneCell' = true := by cases h <;> rfl

theorem Cell.not_agg {M : Mem} {θ : Th} {cs : List AV} {u : Value} (h : Cell M θ (.agg cs) u) : False := by cases h
theorem Cell.not_tup {M : Mem} {θ : Th} {cs : List AV} {u : Value} (h : Cell M θ (.tup cs) u) : False := by cases h

theorem Cell.repA {M : Mem} {θ : Th} {v : AV} {u : Value} (h : Cell M θ v u) : RepA M θ v u := by
  unfold RepA
  split
  · exact h.not_agg.elim
  · exact h

theorem RepA.rep {M : Mem} {θ : Th} {v : AV} {u : Value} (h : RepA M θ v u) : Rep M θ v u := by
  unfold Rep
  split
  · exact (Cell.not_tup (by simpa [RepA] using h)).elim
  · exact h

theorem Cell.rep {M : Mem} {θ : Th} {v : AV} {u : Value} (h : Cell M θ v u) : Rep M θ v u := h.repA.rep

/-- What is no tuple is one cell or a struct. -/
theorem Rep.repA {M : Mem} {θ : Th} {v : AV} {u : Value} (h : Rep M θ v u) (hv : ∀ vs, v ≠ .tup vs) : RepA M θ v u := by
  unfold Rep at h
  split at h
  · exact (hv _ rfl).elim
  · exact h

theorem RepA.cell {M : Mem} {θ : Th} {v : AV} {u : Value} (h : RepA M θ v u) (hv : ∀ vs, v ≠ .agg vs) : Cell M θ v u := by
  unfold RepA at h
  split at h
  · exact (hv _ rfl).elim
  · exact h

theorem Rep.cell {M : Mem} {θ : Th} {v : AV} {u : Value} (h : Rep M θ v u) (h1 : ∀ vs, v ≠ .tup vs) (h2 : ∀ vs, v ≠ .agg vs) : Cell M θ v u := (h.repA h1).cell h2

theorem RepA.cells {M : Mem} {θ : Th} {v : AV} {u : Value} (h : RepA M θ v u) : CellsR M θ v.cells u.cells := by
  unfold RepA at h
  split at h
  · obtain ⟨us, rfl, h⟩ := h; exact h
  · rename_i hv
    have e1 : v.cells = [v] := by cases v <;> first | rfl | exact absurd rfl (hv _)
    have e2 : u.cells = #[u] := by cases h <;> rfl
    rw [e1, e2]
    refine ⟨rfl, fun i c hc => ?_⟩
    cases i with
    | zero => simp at hc; subst hc; exact h
    | succ i => simp at hc

/-! The small heap. -/

/-- Object number 'id' has the model's block 'g' for its own. -/
def OwnAt (θ : Th) (σ : St) (id g : Nat) : Prop :=
  match σ[id]? with
  | some (.row _ xs) => ∃ cap s, θ.tr id xs.length = some (some g, cap, s)
  | some (.cells _) | some (.map _) => θ.tc id = some g
  | _ => False

def Own (θ : Th) (σ : St) (g : Nat) : Prop := ∃ id, OwnAt θ σ id g

/-- The cells of a block hold these elements, one after another. -/
def RowR (M : Mem) (θ : Th) (sz : Nat) (xs : List AV) (cur : Array Value) : Prop :=
  ∀ i x, xs[i]? = some x → ∀ j c, x.cells[j]? = some c → Cell M θ c (cur.getD (i * sz + j) undef)

def EntR (M : Mem) (θ : Th) (es : List (AV × AV)) (us : Array MapEntry) : Prop :=
  us.size = es.length ∧ ∀ (i : Nat) (k v : AV), es[i]? = some (k, v) → ∃ e : MapEntry, us[i]? = some e ∧ RepA M θ k e.key ∧ RepA M θ v e.val

/-- The entries' stamps: each elder than the map's clock, no two alike. -/
def Born (us : Array MapEntry) (clock : Nat) : Prop := (∀ e ∈ us.toList, e.born < clock) ∧ (us.toList.map (·.born)).Nodup

def ObR (w : World) (M : Mem) (θ : Th) (id : Nat) : Ob → Prop
  | .none => (∀ gen, θ.tr id gen = none) ∧ θ.tc id = none
  | .row sz xs => θ.tc id = none ∧ (∀ gen x, θ.tr id gen = some x → gen ≤ xs.length) ∧ 0 < sz ∧ (∀ x ∈ xs, x.cells.length = sz) ∧
      ∃ b cap, θ.tr id xs.length = some (b, cap, sz) ∧ xs.length ≤ cap ∧ cap ≤ maxLen ∧
        match b with
        | none => xs = [] ∧ cap = 0
        | some g => ∃ cur e, w.heap[g]? = some (.cells cur e (0, 0)) ∧ cur.size = cap * sz ∧ RowR M θ sz xs cur
  | .cells cs => (∀ gen, θ.tr id gen = none) ∧ ∃ g cur e, θ.tc id = some g ∧ w.heap[g]? = some (.cells cur e (0, 0)) ∧ CellsR M θ cs cur
  | .map es => (∀ gen, θ.tr id gen = none) ∧ ∃ g us clock, θ.tc id = some g ∧ w.heap[g]? = some (.map us clock) ∧ EntR M θ es us ∧ Born us clock

structure StR (w : World) (M : Mem) (θ : Th) (σ : St) : Prop where
  mem : ∀ g o v, M g o = some v → w.cell? ⟨g, o, none⟩ = some v
  ob : ∀ id x, σ[id]? = some x → ObR w M θ id x
  dis : ∀ i j g, OwnAt θ σ i g → OwnAt θ σ j g → i = j
  out : ∀ g, Own θ σ g → ∀ o, M g o = none
  far : ∀ id, σ.length ≤ id → (∀ gen, θ.tr id gen = none) ∧ θ.tc id = none

theorem OwnAt.lt {w : World} {M : Mem} {θ : Th} {σ : St} (h : StR w M θ σ) {id g : Nat} (ho : OwnAt θ σ id g) : g < w.heap.size := by
  unfold OwnAt at ho
  have lt_of : ∀ {x : Obj}, w.heap[g]? = some x → g < w.heap.size := fun e => (Array.getElem?_eq_some_iff.1 e).1
  split at ho
  · rename_i s xs hx
    obtain ⟨cap, s', ho⟩ := ho
    obtain ⟨_, _, _, _, b, cap', h1, _, _, h2⟩ := h.ob _ _ hx
    rw [ho] at h1
    simp only [Option.some.injEq, Prod.mk.injEq] at h1
    obtain ⟨rfl, _, _⟩ := h1
    obtain ⟨cur, e, h3, _⟩ := h2
    exact lt_of h3
  · rename_i cs hx
    obtain ⟨_, g', cur, e, h1, h2, _⟩ := h.ob _ _ hx
    rw [ho] at h1; cases h1
    exact lt_of h2
  · rename_i es hx
    obtain ⟨_, g', cur, e, h1, h2, _⟩ := h.ob _ _ hx
    rw [ho] at h1; cases h1
    exact lt_of h2
  · exact ho.elim

/-! The frame. 'π': the block of each local variable. -/

def SlotR (w : World) (M : Mem) (θ : Th) (π : Nat → Option Nat) (s : Nat) (sl : Slot) (u : Value) : Prop :=
  match sl with
  | .val v => Rep M θ v u
  | .plc t off => ∃ g, π t = some g ∧ u = .pointer (some ⟨g, off, none⟩)
  | .var cs => ∃ g cur e, π s = some g ∧ u = .pointer (some ⟨g, 0, none⟩) ∧ w.heap[g]? = some (.cells cur e (0, 0)) ∧ CellsR M θ cs cur
  | .und => u = undef
  | .top => True

structure FrR (w : World) (M : Mem) (θ : Th) (σ : St) (π : Nat → Option Nat) (env : Env) (tmps : Array Value) : Prop where
  size : tmps.size = env.length
  slot : ∀ s sl, env[s]? = some sl → SlotR w M θ π s sl (tmps.getD s undef)
  dom : ∀ s g, π s = some g → ∃ cs, env[s]? = some (.var cs)
  inj : ∀ s t g, π s = some g → π t = some g → s = t
  out : ∀ s g, π s = some g → (∀ o, M g o = none) ∧ ¬ Own θ σ g

/-- How one state goes over into a later one: what is not owned here has not been touched; what is owned now was owned before, or is new. -/
structure Ext (w : World) (M : Mem) (θ : Th) (σ : St) (π : Nat → Option Nat) (w' : World) (M' : Mem) (θ' : Th) (σ' : St) (π' : Nat → Option Nat) : Prop where
  os : w'.os = w.os
  tape : w'.tape = w.tape
  output : w'.output = w.output
  size : w.heap.size ≤ w'.heap.size
  m : M.le M'
  t : θ.le θ'
  block : ∀ g, g < w.heap.size → ¬ Own θ σ g → (∀ s, π s ≠ some g) → w'.heap[g]? = w.heap[g]?
  own : ∀ g, Own θ' σ' g → Own θ σ g ∨ w.heap.size ≤ g
  var : ∀ s g, π' s = some g → (∃ s', π s' = some g) ∨ w.heap.size ≤ g
  dom : ∀ g o v, M' g o = some v → M g o = some v ∨ w.heap.size ≤ g ∨ Own θ σ g

theorem Ext.refl (w : World) (M : Mem) (θ : Th) (σ : St) (π : Nat → Option Nat) : Ext w M θ σ π w M θ σ π :=
  ⟨rfl, rfl, rfl, Nat.le_refl _, M.le_refl, θ.le_refl, fun _ _ _ _ => rfl, fun _ h => .inl h, fun s _ h => .inl ⟨s, h⟩, fun _ _ _ h => .inl h⟩

theorem Ext.trans {w w1 w2 : World} {M M1 M2 : Mem} {θ θ1 θ2 : Th} {σ σ1 σ2 : St} {π π1 π2 : Nat → Option Nat}
    (h : Ext w M θ σ π w1 M1 θ1 σ1 π1) (k : Ext w1 M1 θ1 σ1 π1 w2 M2 θ2 σ2 π2) : Ext w M θ σ π w2 M2 θ2 σ2 π2 where
  os := k.os.trans h.os
  tape := k.tape.trans h.tape
  output := k.output.trans h.output
  size := Nat.le_trans h.size k.size
  m := Mem.le_trans h.m k.m
  t := Th.le_trans h.t k.t
  block := fun g hg ho hp => by
    refine (k.block g (by have := h.size; omega) (fun h1 => ?_) (fun s h1 => ?_)).trans (h.block g hg ho hp)
    · rcases h.own g h1 with h2 | h2
      · exact ho h2
      · omega
    · rcases h.var s g h1 with ⟨s', h2⟩ | h2
      · exact hp s' h2
      · omega
  own := fun g h1 => by
    rcases k.own g h1 with h2 | h2
    · exact h.own g h2
    · exact .inr (Nat.le_trans h.size h2)
  var := fun s g h1 => by
    rcases k.var s g h1 with ⟨s', h2⟩ | h2
    · exact h.var s' g h2
    · exact .inr (Nat.le_trans h.size h2)
  dom := fun g o v h1 => by
    rcases k.dom g o v h1 with h2 | h2 | h2
    · exact h.dom g o v h2
    · exact .inr (.inl (Nat.le_trans h.size h2))
    · rcases h.own g h2 with h3 | h3
      · exact .inr (.inr h3)
      · exact .inr (.inl h3)

/-! What a world must keep for the relation to stand. -/

theorem ObR.keep {w w' : World} {M M' : Mem} {θ : Th} {σ : St} {id : Nat} {x : Ob} (hM : M.le M') (hx : σ[id]? = some x)
    (hw : ∀ g, OwnAt θ σ id g → w'.heap[g]? = w.heap[g]?) (h : ObR w M θ id x) : ObR w' M' θ id x := by
  cases x with
  | none => exact h
  | row sz xs =>
    obtain ⟨h0, h1, h2, h3, b, cap, h4, h5, h6, h7⟩ := h
    refine ⟨h0, h1, h2, h3, b, cap, h4, h5, h6, ?_⟩
    cases b with
    | none => exact h7
    | some g =>
      obtain ⟨cur, e, h8, h9, h10⟩ := h7
      exact ⟨cur, e, by rw [hw g (by unfold OwnAt; rw [hx]; exact ⟨cap, sz, h4⟩)]; exact h8, h9, fun i y hy j c hc => (h10 i y hy j c hc).mono hM (Th.le_refl _)⟩
  | cells cs =>
    obtain ⟨h0, g, cur, e, h1, h2, h3⟩ := h
    exact ⟨h0, g, cur, e, h1, by rw [hw g (by unfold OwnAt; rw [hx]; exact h1)]; exact h2, h3.mono hM (Th.le_refl _)⟩
  | map es =>
    obtain ⟨h0, g, us, clock, h1, h2, h3, hbn⟩ := h
    refine ⟨h0, g, us, clock, h1, by rw [hw g (by unfold OwnAt; rw [hx]; exact h1)]; exact h2, ⟨h3.1, fun i k v hk => ?_⟩, hbn⟩
    obtain ⟨e, h4, h5, h6⟩ := h3.2 i k v hk
    exact ⟨e, h4, h5.mono hM (Th.le_refl _), h6.mono hM (Th.le_refl _)⟩

/-- The same small heap over a later world in which what it owns, and what is fixed, stands as it was. -/
theorem StR.keep {w w' : World} {M : Mem} {θ : Th} {σ : St} (h : StR w M θ σ)
    (hb : ∀ g, Own θ σ g → w'.heap[g]? = w.heap[g]?) (hm : ∀ g o v, M g o = some v → w'.heap[g]? = w.heap[g]?) : StR w' M θ σ where
  mem := fun g o v e => by
    have := h.mem g o v e
    simpa [World.cell?, hm g o v e] using this
  ob := fun id x hx => (h.ob id x hx).keep M.le_refl hx fun g hg => hb g ⟨id, hg⟩
  dis := h.dis
  out := h.out
  far := h.far

end Go.Can

namespace Go.Can
open Go

theorem OwnAt.set_ne {θ θ' : Th} {σ : St} {id j g : Nat} {x : Ob} (hj : j ≠ id) (hθ : (∀ gen, θ'.tr j gen = θ.tr j gen) ∧ θ'.tc j = θ.tc j) :
    OwnAt θ' (σ.set id x) j g ↔ OwnAt θ σ j g := by
  unfold OwnAt
  rw [List.getElem?_set_ne (Ne.symm hj)]
  cases σ[j]? with
  | none => exact Iff.rfl
  | some y => cases y <;> simp [hθ.1, hθ.2]

/-- One object is replaced; its block, if it has one afterwards, is the one that it had, or a new one. -/
theorem StR.set {w w' : World} {M : Mem} {θ θ' : Th} {σ : St} {id : Nat} {x x' : Ob} (h : StR w M θ σ) (hx : σ[id]? = some x) (ht : θ.le θ')
    (hθ : ∀ j, j ≠ id → (∀ gen, θ'.tr j gen = θ.tr j gen) ∧ θ'.tc j = θ.tc j)
    (hw : ∀ k, k < w.heap.size → ¬ OwnAt θ σ id k → w'.heap[k]? = w.heap[k]?)
    (hown : ∀ g, OwnAt θ' (σ.set id x') id g → OwnAt θ σ id g ∨ w.heap.size ≤ g) (hob : ObR w' M θ' id x') :
    StR w' M θ' (σ.set id x') ∧ ∀ g, Own θ' (σ.set id x') g → Own θ σ g ∨ w.heap.size ≤ g := by
  have hlt : id < σ.length := (List.getElem?_eq_some_iff.1 hx).1
  have hown' : ∀ j g, OwnAt θ' (σ.set id x') j g → OwnAt θ σ j g ∨ (j = id ∧ w.heap.size ≤ g) := by
    intro j g hj
    by_cases e : j = id
    · subst e
      rcases hown g hj with h1 | h1
      · exact .inl h1
      · exact .inr ⟨rfl, h1⟩
    · exact .inl ((OwnAt.set_ne e (hθ j e)).1 hj)
  have hmlt : ∀ g o v, M g o = some v → g < w.heap.size := fun g o v e => World.block_lt_of_cell? w _ (h.mem g o v e)
  have hmk : ∀ g o v, M g o = some v → w'.heap[g]? = w.heap[g]? := fun g o v e => hw g (hmlt g o v e) (fun ho => by have := h.out g ⟨id, ho⟩ o; rw [e] at this; cases this)
  refine ⟨⟨?_, ?_, ?_, ?_, ?_⟩, ?_⟩
  · intro g o v e
    have := h.mem g o v e
    simpa [World.cell?, hmk g o v e] using this
  · intro j y hy
    by_cases e : j = id
    · subst e
      rw [List.getElem?_set_self hlt] at hy
      cases hy
      exact hob
    · rw [List.getElem?_set_ne (Ne.symm e)] at hy
      have h0 := h.ob j y hy
      have hθj := hθ j e
      have h1 : ObR w' M θ j y := h0.keep M.le_refl hy fun g hg => hw g (hg.lt h) (fun ho => e (h.dis j id g hg ho))
      cases y with
      | none => exact ⟨fun gen => (hθj.1 gen).trans (h1.1 gen), hθj.2.trans h1.2⟩
      | row sz xs =>
        obtain ⟨a0, a1, a2, a3, b, cap, a4, a5, a6, a7⟩ := h1
        refine ⟨hθj.2.trans a0, fun gen z hz => a1 gen z (by rw [← hθj.1]; exact hz), a2, a3, b, cap, (hθj.1 _).trans a4, a5, a6, ?_⟩
        cases b with
        | none => exact a7
        | some g =>
          obtain ⟨cur, e1, a8, a9, a10⟩ := a7
          exact ⟨cur, e1, a8, a9, fun i z hz j c hc => (a10 i z hz j c hc).mono M.le_refl ht⟩
      | cells cs =>
        obtain ⟨a0, g, cur, e1, a1, a2, a3⟩ := h1
        exact ⟨fun gen => (hθj.1 gen).trans (a0 gen), g, cur, e1, hθj.2.trans a1, a2, a3.mono M.le_refl ht⟩
      | map es =>
        obtain ⟨a0, g, us, clock, a1, a2, a3, abn⟩ := h1
        refine ⟨fun gen => (hθj.1 gen).trans (a0 gen), g, us, clock, hθj.2.trans a1, a2, ⟨a3.1, fun i k v hk => ?_⟩, abn⟩
        obtain ⟨e2, a4, a5, a6⟩ := a3.2 i k v hk
        exact ⟨e2, a4, a5.mono M.le_refl ht, a6.mono M.le_refl ht⟩
  · intro i j g hi hj
    rcases hown' i g hi with h1 | ⟨h1, h1'⟩ <;> rcases hown' j g hj with h2 | ⟨h2, h2'⟩
    · exact h.dis i j g h1 h2
    · have := h1.lt h; omega
    · have := h2.lt h; omega
    · exact h1.trans h2.symm
  · rintro g ⟨j, hj⟩ o
    rcases hown' j g hj with h1 | ⟨_, h1⟩
    · exact h.out g ⟨j, h1⟩ o
    · cases e : M g o with
      | none => rfl
      | some v => have := hmlt g o v e; omega
  · intro j hj
    rw [List.length_set] at hj
    have hne : j ≠ id := by omega
    have hf := h.far j hj
    exact ⟨fun gen => ((hθ j hne).1 gen).trans (hf.1 gen), (hθ j hne).2.trans hf.2⟩
  · rintro g ⟨j, hj⟩
    rcases hown' j g hj with h1 | ⟨_, h1⟩
    · exact .inl ⟨j, h1⟩
    · exact .inr h1

theorem StR.none {w : World} {M : Mem} {θ : Th} {σ : St} (h : StR w M θ σ) (n : Nat) : StR w M θ (σ ++ List.replicate n .none) ∧ ∀ g, Own θ (σ ++ List.replicate n .none) g ↔ Own θ σ g := by
  have key : ∀ i g, OwnAt θ (σ ++ List.replicate n .none) i g ↔ OwnAt θ σ i g := by
    intro i g
    unfold OwnAt
    by_cases hi : i < σ.length
    · rw [List.getElem?_append_left hi]
    · rw [List.getElem?_append_right (by omega), List.getElem?_replicate]
      have : σ[i]? = Option.none := by simp; omega
      rw [this]
      split <;> simp_all
  refine ⟨⟨h.mem, ?_, fun i j g hi hj => h.dis i j g ((key i g).1 hi) ((key j g).1 hj), fun g ⟨j, hj⟩ o => h.out g ⟨j, (key j g).1 hj⟩ o, fun id hid => h.far id (by simp at hid; omega)⟩, fun g => ⟨fun ⟨j, hj⟩ => ⟨j, (key j g).1 hj⟩, fun ⟨j, hj⟩ => ⟨j, (key j g).2 hj⟩⟩⟩
  intro id x hx
  by_cases hi : id < σ.length
  · rw [List.getElem?_append_left hi] at hx
    exact h.ob id x hx
  · rw [List.getElem?_append_right (by omega), List.getElem?_replicate] at hx
    split at hx
    · cases hx; exact h.far id (by omega)
    · cases hx

/-- The calls' own form of 'Ext': no frame. -/
abbrev Ext0 (w : World) (M : Mem) (θ : Th) (σ : St) (w' : World) (M' : Mem) (θ' : Th) (σ' : St) : Prop := Ext w M θ σ (fun _ => none) w' M' θ' σ' (fun _ => none)

theorem Ext.lift {w w' : World} {M M' : Mem} {θ θ' : Th} {σ σ' : St} (h : Ext0 w M θ σ w' M' θ' σ') (π : Nat → Option Nat) : Ext w M θ σ π w' M' θ' σ' π :=
  ⟨h.os, h.tape, h.output, h.size, h.m, h.t, fun g h1 h2 _ => h.block g h1 h2 (fun _ => by simp), h.own, fun s g hs => .inl ⟨s, hs⟩, h.dom⟩

theorem SlotR.mono {w w' : World} {M M' : Mem} {θ θ' : Th} {π : Nat → Option Nat} {s : Nat} {sl : Slot} {u : Value} (hM : M.le M') (ht : θ.le θ')
    (hw : ∀ g, π s = some g → w'.heap[g]? = w.heap[g]?) (h : SlotR w M θ π s sl u) : SlotR w' M' θ' π s sl u := by
  cases sl with
  | val v => exact Rep.mono hM ht h
  | var cs =>
    obtain ⟨g, cur, e, h1, h2, h3, h4⟩ := h
    exact ⟨g, cur, e, h1, h2, (hw g h1).trans h3, h4.mono hM ht⟩
  | plc t off => exact h
  | und => exact h
  | top => exact h

theorem FrR.lt {w : World} {M : Mem} {θ : Th} {σ : St} {π : Nat → Option Nat} {env : Env} {tmps : Array Value} (h : FrR w M θ σ π env tmps) {s g : Nat} (hs : π s = some g) : g < w.heap.size := by
  obtain ⟨cs, hc⟩ := h.dom s g hs
  obtain ⟨g', cur, e, h1, _, h3, _⟩ := h.slot s _ hc
  rw [hs] at h1; cases h1
  exact (Array.getElem?_eq_some_iff.1 h3).1

/-- A call, or an operation that touches no variable, leaves the frame as it was. -/
theorem FrR.ext {w w' : World} {M M' : Mem} {θ θ' : Th} {σ σ' : St} {π : Nat → Option Nat} {env : Env} {tmps : Array Value} (h : FrR w M θ σ π env tmps) (e : Ext0 w M θ σ w' M' θ' σ') : FrR w' M' θ' σ' π env tmps := by
  have hk : ∀ s g, π s = some g → w'.heap[g]? = w.heap[g]? := fun s g hs => e.block g (h.lt hs) (h.out s g hs).2 (fun _ => by simp)
  refine ⟨h.size, fun s sl hs => (h.slot s sl hs).mono e.m e.t (hk s), h.dom, h.inj, fun s g hs => ⟨fun o => ?_, fun ho => ?_⟩⟩
  · cases hm : M' g o with
    | none => rfl
    | some v =>
      rcases e.dom g o v hm with h1 | h1 | h1
      · have := (h.out s g hs).1 o; rw [h1] at this; cases this
      · have := h.lt hs; omega
      · exact absurd h1 (h.out s g hs).2
  · rcases e.own g ho with h1 | h1
    · exact (h.out s g hs).2 h1
    · have := h.lt hs; omega

/-- A slot that is no variable takes a value that is none. -/
theorem FrR.put {w : World} {M : Mem} {θ : Th} {σ : St} {π : Nat → Option Nat} {env : Env} {a : Act} (h : FrR w M θ σ π env a.tmps) (d : Option Tmp) (hd : okDst env d = true) {sl : Slot} (hsl : ∀ cs, sl ≠ .var cs) {u : Value}
    (hu : ∀ s, SlotR w M θ π s sl u) : FrR w M θ σ π (putA env d sl) (a.put d u).tmps := by
  cases d with
  | none => exact h
  | some d =>
    simp only [okDst] at hd
    have hnv : ∀ cs, env[d]? ≠ some (.var cs) := fun cs e => by rw [e] at hd; cases hd
    have hlt : d < env.length := by
      refine Decidable.byContradiction fun hlt => ?_
      have : env[d]? = none := List.getElem?_eq_none (Nat.le_of_not_lt hlt)
      rw [this] at hd; cases hd
    simp only [putA, Act.put]
    refine ⟨by simp [h.size], fun s sl' hs => ?_, fun s g hs => ?_, h.inj, h.out⟩
    · by_cases e : s = d
      · subst e
        rw [List.getElem?_set_self hlt] at hs
        cases hs
        have hl : s < a.tmps.size := by rw [h.size]; exact hlt
        have he : (a.tmps.setIfInBounds s u).getD s undef = u := by simp [Array.getD_eq_getD_getElem?, hl]
        rw [he]
        exact hu s
      · rw [List.getElem?_set_ne (Ne.symm e)] at hs
        have := h.slot s sl' hs
        have he : (a.tmps.setIfInBounds d u).getD s undef = a.tmps.getD s undef := by simp [Array.getD_eq_getD_getElem?, Array.getElem?_setIfInBounds, Ne.symm e]
        rwa [he]
    · obtain ⟨cs, hc⟩ := h.dom s g hs
      refine ⟨cs, ?_⟩
      rw [List.getElem?_set_ne (fun e => hnv cs (by rw [e]; exact hc))]
      exact hc

theorem FrR.putV {w : World} {M : Mem} {θ : Th} {σ : St} {π : Nat → Option Nat} {env : Env} {a : Act} (h : FrR w M θ σ π env a.tmps) (d : Option Tmp) (hd : okDst env d = true) {v : AV} {u : Value}
    (hu : Rep M θ v u) : FrR w M θ σ π (putA env d (.val v)) (a.put d u).tmps := h.put d hd (by simp) (fun _ => hu)

/-! Constants and operands. -/

theorem ofC_sound {v : Value} {a : AV} (h : ofC v = some a) (M : Mem) (θ : Th) : Cell M θ a v := by
  unfold ofC at h
  split at h <;> cases h
  · exact .bool _
  · exact .int _ _
  · exact .str _
  · exact .nilp
  · exact .list true 0 [] none 0 (fun _ _ => undef) (Nat.le_refl _) (by simp [maxLen]) (fun _ => rfl) (by simp) (by simp) (by simp)
  · exact .mapN
  · exact .nilf
  · exact .nili

theorem ofCs_sound : ∀ {vs : List Value} {as : List AV}, ofCs vs = some as → ∀ (M : Mem) (θ : Th), CellsR M θ as vs.toArray
  | [], as, h, M, θ => by cases h; exact ⟨rfl, by simp⟩
  | v :: vs, as, h, M, θ => by
    unfold ofCs at h
    split at h
    · rename_i a as' h1 h2
      cases h
      have ih := ofCs_sound h2 M θ
      refine ⟨by have := ih.1; simp at this ⊢; exact this, fun i c hc => ?_⟩
      cases i with
      | zero => simp at hc; subst hc; simpa using ofC_sound h1 M θ
      | succ i => simp at hc; simpa [Array.getD_eq_getD_getElem?] using ih.2 i c hc
    · cases h

theorem ofV_sound {v : Value} {a : AV} (h : ofV v = some a) (M : Mem) (θ : Th) : RepA M θ a v := by
  unfold ofV at h
  split at h
  · rename_i cs
    cases e : ofCs cs.toList with
    | none => rw [e] at h; cases h
    | some as =>
      rw [e] at h; cases h
      refine ⟨cs, rfl, ?_⟩
      simpa using ofCs_sound e M θ
  · exact (ofC_sound h M θ).repA

theorem look_sound {w : World} {M : Mem} {θ : Th} {σ : St} {π : Nat → Option Nat} {env : Env} {a : Act} (h : FrR w M θ σ π env a.tmps) (x : Operand) :
    SlotR w M θ π 0 (look env x) (a.eval x) ∧ ∀ cs, look env x ≠ .var cs := by
  cases x with
  | tmp t =>
    simp only [look, Act.eval]
    cases e : env[t]? with
    | none => exact ⟨trivial, by simp⟩
    | some s =>
      have := h.slot t s e
      cases s with
      | var cs =>
        obtain ⟨g, cur, e, h1, h2, _⟩ := this
        exact ⟨⟨g, h1, h2⟩, by simp⟩
      | val v => exact ⟨this, by simp⟩
      | plc s off => exact ⟨this, by simp⟩
      | und => exact ⟨this, by simp⟩
      | top => exact ⟨trivial, by simp⟩
  | const v =>
    simp only [look, Act.eval]
    cases e : ofV v with
    | none => exact ⟨trivial, by simp⟩
    | some s => exact ⟨(ofV_sound e M θ).rep, by simp⟩
  | global g => exact ⟨trivial, by simp [look]⟩
  | func f => exact ⟨(Cell.fn f [] [] #[] #[] rfl rfl (by simp) (by simp)).rep, by simp [look]⟩

theorem lookV_sound {w : World} {M : Mem} {θ : Th} {σ : St} {π : Nat → Option Nat} {env : Env} {a : Act} (h : FrR w M θ σ π env a.tmps) {x : Operand} {v : AV} (hv : lookV env x = some v) : RepA M θ v (a.eval x) := by
  have := (look_sound h x).1
  unfold lookV Slot.v at hv
  split at hv
  · cases hv
  · rename_i v' hn e
    cases hv
    rw [e] at this
    exact Rep.repA this (fun vs e => hn vs (by rw [e]))
  · cases hv

theorem lookVs_sound {w : World} {M : Mem} {θ : Th} {σ : St} {π : Nat → Option Nat} {env : Env} {a : Act} (h : FrR w M θ σ π env a.tmps) : ∀ {xs : List Operand} {vs : List AV}, lookVs env xs = some vs →
    vs.length = xs.length ∧ ∀ (i : Nat) (v : AV) (x : Operand), vs[i]? = some v → xs[i]? = some x → RepA M θ v (a.eval x)
  | [], vs, e => by cases e; simp
  | x :: xs, vs, e => by
    unfold lookVs at e
    split at e
    · rename_i v vs' h1 h2
      cases e
      have ih := lookVs_sound h h2
      refine ⟨by simp [ih.1], fun i v' x' hv hx => ?_⟩
      cases i with
      | zero => simp at hv hx; subst hv; subst hx; exact lookV_sound h h1
      | succ i => simp at hv hx; exact ih.2 i v' x' hv hx
    · cases e

/-! What a value of the evaluator's stands for. -/
theorem Rep.int {M : Mem} {θ : Th} {k : IntKind} {n : Int} {u : Value} (h : Rep M θ (.int k n) u) : u = .int k n := by cases h; rfl
theorem Rep.bool {M : Mem} {θ : Th} {b : Bool} {u : Value} (h : Rep M θ (.bool b) u) : u = .bool b := by cases h; rfl
theorem Rep.str {M : Mem} {θ : Th} {b : ByteArray} {u : Value} (h : Rep M θ (.str b) u) : u = .string b := by cases h; rfl
theorem Rep.nilp {M : Mem} {θ : Th} {u : Value} (h : Rep M θ .nilp u) : u = .pointer none := by cases h; rfl
theorem Rep.agg {M : Mem} {θ : Th} {cs : List AV} {u : Value} (h : Rep M θ (.agg cs) u) : ∃ us, u = .agg us ∧ CellsR M θ cs us := h
theorem Rep.tup {M : Mem} {θ : Th} {cs : List AV} {u : Value} (h : Rep M θ (.tup cs) u) : ∃ us : Array Value, u = .tuple us ∧ us.size = cs.length ∧ ∀ i c, cs[i]? = some c → RepA M θ c (us.getD i undef) := h
theorem Rep.list {M : Mem} {θ : Th} {f : Bool} {sz : Nat} {xs : List AV} {u : Value} (h : Rep M θ (.list f sz xs) u) : ∃ a cap, u = .slice a xs.length cap := by cases h; exact ⟨_, _, rfl⟩
theorem Rep.row {M : Mem} {θ : Th} {sz id gen off len : Nat} {lim : Bool} {u : Value} (h : Rep M θ (.row sz id gen off len lim) u) : ∃ a cap, u = .slice a len cap := by cases h; exact ⟨_, _, rfl⟩
theorem Rep.ptr {M : Mem} {θ : Th} {id off : Nat} {u : Value} (h : Rep M θ (.ptr id off) u) : ∃ g, θ.tc id = some g ∧ u = .pointer (some ⟨g, off, none⟩) := by cases h; exact ⟨_, by assumption, rfl⟩
theorem Rep.mapN {M : Mem} {θ : Th} {u : Value} (h : Rep M θ (.map none) u) : u = .map none := by cases h; rfl
theorem Rep.mapS {M : Mem} {θ : Th} {id : Nat} {u : Value} (h : Rep M θ (.map (some id)) u) : ∃ g, θ.tc id = some g ∧ u = .map (some g) := by cases h; exact ⟨_, by assumption, rfl⟩
theorem Rep.fn {M : Mem} {θ : Th} {f : FuncId} {fi ca : List AV} {u : Value} (h : Rep M θ (.fn f fi ca) u) : ∃ fu cu : Array Value, u = .func (.func f) fu cu ∧ fu.size = fi.length ∧ cu.size = ca.length ∧
    (∀ i c, fi[i]? = some c → Cell M θ c (fu.getD i undef)) ∧ (∀ i c, ca[i]? = some c → Cell M θ c (cu.getD i undef)) := by
  cases h; exact ⟨_, _, rfl, by assumption, by assumption, by assumption, by assumption⟩

/-! Types. -/
section
variable {P : Program}

theorem szOf_run {t : TypeId} {n : Nat} (h : szOf P t = some n) (w : World) : (sizeOf t).run P w = .ok n w := by
  unfold szOf at h
  cases e : P.info? t with
  | none => rw [e] at h; cases h
  | some i => rw [e] at h; cases h; simp [sizeOf, typeInfo, e]

theorem aggT_run {t : TypeId} {b : Bool} (h : aggT P t = some b) (w : World) : (isAgg t).run P w = .ok b w := by
  unfold aggT at h
  unfold isAgg
  split at h
  · rename_i fs e; cases h; simp [run_underlying e]
  · rename_i n t' e; cases h; simp [run_underlying e]
  · rename_i d h1 h2 e
    cases h
    rw [Sem.run_bind, run_underlying e]
    cases d <;> simp_all
  · cases h

theorem elemT_spec {t e : TypeId} {s b : Nat} (h : elemT P t = some (e, s, b)) : P.underlying t = some (.slice e) ∧ ∃ i, P.info? e = some i ∧ i.size = s ∧ i.bytes = b := by
  unfold elemT at h
  split at h
  · rename_i e' he
    split at h
    · rename_i s' b' h1 h2
      cases h
      refine ⟨he, ?_⟩
      unfold szOf at h1; unfold byOf at h2
      cases hi : P.info? e with
      | none => rw [hi] at h1; cases h1
      | some i => rw [hi] at h1 h2; cases h1; cases h2; exact ⟨i, rfl, rfl, rfl⟩
    · cases h
  · cases h

/-! Loads. -/

theorem addr_add (g o n : Nat) : (⟨g, o, none⟩ : Addr).add n = ⟨g, o + n, none⟩ := by unfold Addr.add; split <;> simp_all

theorem partA_sound {M : Mem} {θ : Th} {w : World} {t : TypeId} {cs : List AV} {off : Nat} {v : AV} (hp : partA P t cs off = some v) {g o : Nat}
    (hc : ∀ j c, cs[j]? = some c → ∃ u, w.cell? ⟨g, o + j, none⟩ = some u ∧ Cell M θ c u) : ∃ u, (loadVar t ⟨g, o + off, none⟩).run P w = .ok u w ∧ RepA M θ v u := by
  unfold partA at hp
  split at hp
  · rename_i ha
    split at hp
    · rename_i n hn
      split at hp
      · rename_i hle
        cases hp
        let us : List Value := (List.range n).map fun j => (w.cell? ⟨g, o + off + j, none⟩).getD undef
        have hus : us.length = n := by simp [us]
        have hcell : ∀ j, j < n → ∃ c u, cs[off + j]? = some c ∧ w.cell? ⟨g, o + off + j, none⟩ = some u ∧ Cell M θ c u := by
          intro j hj
          have hlt : off + j < cs.length := by omega
          obtain ⟨u, h1, h2⟩ := hc (off + j) _ (List.getElem?_eq_getElem hlt)
          exact ⟨_, u, List.getElem?_eq_getElem hlt, by rw [← h1]; congr 2; omega, h2⟩
        have hl : (loadCells ⟨g, o + off, none⟩ us.length).run P w = .ok us.toArray w := by
          refine run_loadCells_list (P := P) w ⟨g, o + off, none⟩ us fun j u hu => ?_
          have hj : j < n := by rw [← hus]; exact (List.getElem?_eq_some_iff.1 hu).1
          obtain ⟨c, u', h1, h2, h3⟩ := hcell j hj
          simp only [us, List.getElem?_map, List.getElem?_range hj, Option.map_some, h2, Option.getD_some, Option.some.injEq] at hu
          rw [addr_add, h2, hu]
        refine ⟨.agg us.toArray, ?_, us.toArray, rfl, ?_⟩
        · rw [hus] at hl
          simp [loadVar, aggT_run ha, szOf_run hn, hl]
        · refine ⟨by simp [hus]; omega, fun i c hci => ?_⟩
          have hi : i < n := by
            have := (List.getElem?_eq_some_iff.1 hci).1
            simp at this; omega
          obtain ⟨c', u', h1, h2, h3⟩ := hcell i hi
          rw [List.getElem?_take_of_lt hi, List.getElem?_drop, h1] at hci
          cases hci
          have : us.toArray.getD i undef = u' := by
            simp only [Array.getD_eq_getD_getElem?, List.getElem?_toArray, us, List.getElem?_map, List.getElem?_range hi, Option.map_some, h2, Option.getD_some]
          rw [this]; exact h3
      · cases hp
    · cases hp
  · rename_i ha
    obtain ⟨u, h1, h2⟩ := hc off v hp
    refine ⟨u, ?_, h2.repA⟩
    simp [loadVar, aggT_run ha, h1]
  · cases hp

end
end Go.Can

namespace Go.Can
open Go

/-- An operation that the evaluator takes to (env', σ', sl) is carried out by the model, and the relation stands behind it. -/
def OpS (P : Program) (w : World) (M : Mem) (θ : Th) (σ : St) (π : Nat → Option Nat) (o : Oper) (a : Act) (env' : Env) (σ' : St) (sl : Slot) : Prop :=
  ∀ (K : Act → World → Prop) (Q : Exit → Act → World → Prop),
    (∀ u w' M' θ' π', Ext w M θ σ π w' M' θ' σ' π' → StR w' M' θ' σ' → FrR w' M' θ' σ' π' (putA env' o.dst sl) (a.put o.dst u).tmps → K (a.put o.dst u) w') → o.wp P a w K Q

section
variable {P : Program} {w : World} {M : Mem} {θ : Th} {σ : St} {π : Nat → Option Nat} {env : Env} {o : Oper} {a : Act}

theorem OpS.val {env' : Env} {σ' : St} {sl : Slot} {u : Value} {w' : World} {M' : Mem} {θ' : Th} {π' : Nat → Option Nat} (hr : (execOp a.eval o).run P w = .ok (.value u) w')
    (he : Ext w M θ σ π w' M' θ' σ' π') (hs : StR w' M' θ' σ') (hf : FrR w' M' θ' σ' π' (putA env' o.dst sl) (a.put o.dst u).tmps) : OpS P w M θ σ π o a env' σ' sl := by
  intro K Q h
  unfold Oper.wp
  rw [hr]
  exact h u w' M' θ' π' he hs hf

theorem OpS.skip {env' : Env} {σ' : St} {sl : Slot} {w' : World} {M' : Mem} {θ' : Th} {π' : Nat → Option Nat} (hr : (execOp a.eval o).run P w = .ok .skip w')
    (he : Ext w M θ σ π w' M' θ' σ' π') (hs : StR w' M' θ' σ') (hf : FrR w' M' θ' σ' π' (putA env' o.dst sl) (a.put o.dst undef).tmps) : OpS P w M θ σ π o a env' σ' sl := by
  intro K Q h
  unfold Oper.wp
  rw [hr]
  exact h undef w' M' θ' π' he hs hf

/-- The world is not touched. -/
theorem OpS.same {sl : Slot} {u : Value} (hs : StR w M θ σ) (hf : FrR w M θ σ π env a.tmps) (hd : okDst env o.dst = true) (hr : (execOp a.eval o).run P w = .ok (.value u) w)
    (hn : ∀ cs, sl ≠ .var cs) (hu : ∀ s, SlotR w M θ π s sl u) : OpS P w M θ σ π o a env σ sl :=
  .val hr (Ext.refl _ _ _ _ _) hs (hf.put o.dst hd hn hu)

theorem OpS.sameV {v : AV} {u : Value} (hs : StR w M θ σ) (hf : FrR w M θ σ π env a.tmps) (hd : okDst env o.dst = true) (hr : (execOp a.eval o).run P w = .ok (.value u) w)
    (hu : Rep M θ v u) : OpS P w M θ σ π o a env σ (.val v) := .same hs hf hd hr (by simp) (fun _ => hu)

/-- The small heap goes on, no variable is touched. -/
theorem OpS.goV {σ' : St} {v : AV} {u : Value} {w' : World} {M' : Mem} {θ' : Th} (hf : FrR w M θ σ π env a.tmps) (hd : okDst env o.dst = true) (hr : (execOp a.eval o).run P w = .ok (.value u) w')
    (he : Ext0 w M θ σ w' M' θ' σ') (hs : StR w' M' θ' σ') (hu : Rep M' θ' v u) : OpS P w M θ σ π o a env σ' (.val v) :=
  .val hr (he.lift π) hs ((hf.ext he).putV o.dst hd hu)

theorem OpS.goU {σ' : St} {w' : World} {M' : Mem} {θ' : Th} (hf : FrR w M θ σ π env a.tmps) (hd : okDst env o.dst = true) (hr : (execOp a.eval o).run P w = .ok .skip w')
    (he : Ext0 w M θ σ w' M' θ' σ') (hs : StR w' M' θ' σ') : OpS P w M θ σ π o a env σ' .und :=
  .skip hr (he.lift π) hs ((hf.ext he).put o.dst hd (by simp) (fun _ => rfl))

theorem SlotR.any {s t : Nat} {sl : Slot} {u : Value} (hn : ∀ cs, sl ≠ .var cs) (h : SlotR w M θ π s sl u) : SlotR w M θ π t sl u := by
  cases sl with
  | var cs => exact (hn cs rfl).elim
  | val v => exact h
  | plc t off => exact h
  | und => exact h
  | top => exact h

theorem op_move {x : Operand} (hs : StR w M θ σ) (hf : FrR w M θ σ π env a.tmps) (hd : okDst env o.dst = true) (ho : o.op = .move x ∨ o.op = .assign x) : OpS P w M θ σ π o a env σ (look env x) := by
  have h := look_sound hf x
  refine .same (u := a.eval x) hs hf hd ?_ h.2 (fun s => h.1.any h.2)
  rcases ho with ho | ho <;> simp [execOp, ho]

theorem op_pick {c x y : Operand} {t : Bool} {v : AV} (hs : StR w M θ σ) (hf : FrR w M θ σ π env a.tmps) (hd : okDst env o.dst = true) (ho : o.op = .pick c x y)
    (hc : lookV env c = some (.bool t)) (hv : lookV env (if t then x else y) = some v) : OpS P w M θ σ π o a env σ (.val v) := by
  have h1 := (lookV_sound hf hc).rep
  have h2 := (lookV_sound hf hv).rep
  have e1 : a.eval c = .bool t := h1.bool
  refine .sameV (u := a.eval (if t then x else y)) hs hf hd ?_ h2
  cases t <;> simp [execOp, ho, asBool, e1]

theorem op_unOp {op : UnOp} {t : TypeId} {x : Operand} {v r : AV} (hs : StR w M θ σ) (hf : FrR w M θ σ π env a.tmps) (hd : okDst env o.dst = true) (ho : o.op = .unOp op t x)
    (hx : lookV env x = some v) (hr : unA op v = some r) : OpS P w M θ σ π o a env σ (.val r) := by
  have h1 := (lookV_sound hf hx).rep
  unfold unA at hr
  split at hr
  · rename_i k n
    have e1 : a.eval x = .int k n := h1.int
    split at hr
    · cases hr
      exact .sameV (u := .int k (k.wrap (0 - n))) hs hf hd (by simp [execOp, ho, e1, Op.unary, Op.intArith]) (Cell.int _ _).rep
    · cases hr
  · rename_i b
    have e1 : a.eval x = .bool b := h1.bool
    split at hr
    · cases hr
      exact .sameV (u := .bool !b) hs hf hd (by simp [execOp, ho, e1, Op.unary]) (Cell.bool _).rep
    · cases hr
  · cases hr

theorem op_convert {t d : TypeId} {x : Operand} {k k' : IntKind} {n : Int} (hs : StR w M θ σ) (hf : FrR w M θ σ π env a.tmps) (hd : okDst env o.dst = true) (ho : o.op = .convert t d x)
    (hu : P.underlying d = some (.int k)) (ht : ∃ q, P.underlying t = some (.int q)) (hx : lookV env x = some (.int k' n)) : OpS P w M θ σ π o a env σ (.val (.int k (k.wrap n))) := by
  have h1 := (lookV_sound hf hx).rep
  have e1 : a.eval x = .int k' n := h1.int
  obtain ⟨q, hq⟩ := ht
  exact .sameV (u := .int k (k.wrap n)) hs hf hd (by simp [execOp, ho, e1, convert, run_underlying hu, run_underlying hq, Conv.intToInt]) (Cell.int _ _).rep

theorem op_extract {x : Operand} {i : Nat} {vs : List AV} {v : AV} (hs : StR w M θ σ) (hf : FrR w M θ σ π env a.tmps) (hd : okDst env o.dst = true) (ho : o.op = .extract x i)
    (hx : look env x = .val (.tup vs)) (hi : vs[i]? = some v) : OpS P w M θ σ π o a env σ (.val v) := by
  have h0 := (look_sound hf x).1
  rw [hx] at h0
  obtain ⟨us, e1, h2, h3⟩ := Rep.tup h0
  have hlt : i < us.size := by have := (List.getElem?_eq_some_iff.1 hi).1; omega
  have hu := h3 i v hi
  have e2 : us[i]? = some (us.getD i undef) := by simp [Array.getD_eq_getD_getElem?, hlt]
  exact .sameV (u := us.getD i undef) hs hf hd (by simp only [execOp, ho, e1, Instr.extract, e2]; simp) hu.rep

/-! Comparisons. -/

theorem basicT_agg {t : TypeId} (h : basicT P t = true) : (isAgg t).run P w = .ok false w := by
  unfold basicT at h
  unfold isAgg
  split at h
  · rename_i e; rw [Sem.run_bind, run_underlying e]; rfl
  · rename_i k e; rw [Sem.run_bind, run_underlying e]; rfl
  · rename_i e; rw [Sem.run_bind, run_underlying e]; rfl
  · cases h

theorem cellEq_run {d : Nat} {t : TypeId} {x y : AV} {u v : Value} {b : Bool} (h : cellEq x y = some b) (hx : Cell M θ x u) (hy : Cell M θ y v) (ht : cellOk P t x = true) :
    (Op.equalIn (d + 1) t u v).run P w = .ok b w := by
  unfold cellEq at h
  split at h
  · rename_i k n k' n'
    cases hx; cases hy
    split at h
    · rename_i e; cases h; subst e
      simp only [cellOk] at ht
      split at ht
      · rename_i q hq; exact run_equalIn_int w d t k q n n' hq
      · cases ht
    · cases h
  · cases hx; cases hy; cases h
    simp only [cellOk] at ht
    split at ht
    · rename_i hq; exact run_equalIn_bool w d t _ _ hq
    · cases ht
  · cases hx; cases hy; cases h
    simp only [cellOk] at ht
    split at ht
    · rename_i hq; exact run_equalIn_string w d t _ _ hq
    · cases ht
  · cases h

theorem eqFields_run {d : Nat} {cx cy : List AV} {xs ys : Array Value} (hx : CellsR M θ cx xs) (hy : CellsR M θ cy ys) {b : Bool} : ∀ (fs : List Field) (i : Nat), flatFs P fs i = true → cellsOk P fs (cx.drop i) = true →
    cellsEq (cx.drop i) (cy.drop i) = some b → (Op.eqFields (d + 1) xs ys fs).run P w = .ok b w
  | [], i, _, h2, h3 => by
    cases e : cx.drop i with
    | nil =>
      rw [e] at h3
      cases e' : cy.drop i with
      | nil => rw [e'] at h3; simp only [cellsEq] at h3; cases h3; simp [Op.eqFields]
      | cons c cs => rw [e'] at h3; simp [cellsEq] at h3
    | cons c cs => rw [e] at h2; simp [cellsOk] at h2
  | f :: fs, i, h1, h2, h3 => by
    simp only [flatFs, Bool.and_eq_true, bne_iff_ne, beq_iff_eq] at h1
    obtain ⟨⟨⟨⟨hb, ho⟩, hn⟩, _⟩, h1⟩ := h1
    cases e : cx.drop i with
    | nil => rw [e] at h2; simp [cellsOk] at h2
    | cons c cs =>
      cases e' : cy.drop i with
      | nil => rw [e, e'] at h3; simp [cellsEq] at h3
      | cons c' cs' =>
        have d1 : cx.drop (i + 1) = cs := by rw [← List.drop_drop, e]; rfl
        have d2 : cy.drop (i + 1) = cs' := by rw [← List.drop_drop, e']; rfl
        have g1 : cx[i]? = some c := by rw [← List.head?_drop, e]; rfl
        have g2 : cy[i]? = some c' := by rw [← List.head?_drop, e']; rfl
        have l1 : i < xs.size := by rw [hx.1]; exact (List.getElem?_eq_some_iff.1 g1).1
        have l2 : i < ys.size := by rw [hy.1]; exact (List.getElem?_eq_some_iff.1 g2).1
        rw [e] at h2; simp only [cellsOk, Bool.and_eq_true] at h2
        rw [e, e'] at h3; simp only [cellsEq] at h3
        have p1 : (Go.part f.type xs f.offset).run P w = .ok (xs.getD i undef) w := by
          have q : xs[i]? = some (xs.getD i undef) := by simp [Array.getD_eq_getD_getElem?, l1]
          simp only [Go.part, Sem.run_bind, basicT_agg hb, Result.andThen_ok, ho, q]; simp
        have p2 : (Go.part f.type ys f.offset).run P w = .ok (ys.getD i undef) w := by
          have q : ys[i]? = some (ys.getD i undef) := by simp [Array.getD_eq_getD_getElem?, l2]
          simp only [Go.part, Sem.run_bind, basicT_agg hb, Result.andThen_ok, ho, q]; simp
        unfold Op.eqFields
        rw [if_pos hn]
        cases ec : cellEq c c' with
        | none => rw [ec] at h3; cases h3
        | some r =>
          have r1 := cellEq_run (P := P) (w := w) (d := d) ec (hx.2 i c g1) (hy.2 i c' g2) h2.1
          rw [ec] at h3
          simp only [Sem.run_bind, p1, p2, r1, Result.andThen_ok]
          cases r with
          | false => cases h3; simp
          | true =>
            simp only [Bool.not_true, Bool.false_eq_true, if_false]
            exact eqFields_run hx hy fs (i + 1) h1 (by rw [d1]; exact h2.2) (by rw [d1, d2]; exact h3)

theorem flatT_spec {t : TypeId} (h : flatT P t = true) : ∃ fs, P.underlying t = some (.struct fs) ∧ flatFs P fs.toList 0 = true ∧ szOf P t = some fs.size ∧ P.stoodInHeld t = false ∧ P.eqGuardType P.depth t = false := by
  unfold flatT at h
  split at h
  · rename_i fs hfs
    simp only [Bool.and_eq_true, beq_iff_eq, Bool.not_eq_true'] at h
    exact ⟨fs, hfs, h.1.1.1, h.1.1.2, h.1.2, h.2⟩
  · cases h

theorem keyEq_run {d : Nat} {t : TypeId} {x y : AV} {u v : Value} {b : Bool} (h : keyEq x y = some b) (hx : RepA M θ x u) (hy : RepA M θ y v) (ht : keyOk P t x = true) :
    (Op.equalIn (d + 2) t u v).run P w = .ok b w := by
  unfold keyEq at h
  split at h
  · rename_i cx cy
    obtain ⟨xs, rfl, h1⟩ := hx
    obtain ⟨ys, rfl, h2⟩ := hy
    simp only [keyOk] at ht
    split at ht
    · rename_i fs hfs
      simp only [Bool.and_eq_true] at ht
      obtain ⟨fs', hfs', f1, _, f3, _⟩ := flatT_spec ht.1
      rw [hfs] at hfs'; cases hfs'
      have hf : P.fieldsOf t = fs := by simp [Program.fieldsOf, hfs]
      rw [run_equalIn_struct w (d + 1) t xs ys (by rw [hf]; exact hfs) f3, hf]
      exact eqFields_run h1 h2 fs.toList 0 f1 (by simpa using ht.2) (by simpa using h)
    · cases ht
  · have a1 : ∀ cs, x ≠ .agg cs := fun cs e => by subst e; simp [cellEq] at h
    have a2 : ∀ cs, y ≠ .agg cs := fun cs e => by subst e; unfold cellEq at h; split at h <;> simp_all
    refine cellEq_run h (hx.cell a1) (hy.cell a2) ?_
    cases x <;> first | exact ht | exact absurd rfl (a1 _)
end
end Go.Can
