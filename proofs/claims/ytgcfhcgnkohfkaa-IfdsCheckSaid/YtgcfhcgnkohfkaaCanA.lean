/- A deterministic evaluator of the loaded program's code over value trees and a small heap. This file only defines it; nothing is claimed here. -/
import Derived.WalkKit
set_option linter.unusedSimpArgs false
set_option linter.unusedVariables false
namespace Go.Can

inductive AV where
  | int (k : IntKind) (n : Int)
  | bool (b : Bool)
  | str (s : ByteArray)
  | nilp
  | nilf
  | nili
  | agg (cs : List AV)
  | tup (vs : List AV)
  | list (full : Bool) (sz : Nat) (xs : List AV)
  | row (sz id gen off len : Nat) (lim : Bool)
  | elm (s : AV) (sz i off : Nat)
  | ptr (id off : Nat)
  | map (r : Option Nat)
  | fn (f : FuncId) (first cap : List AV)

instance : Inhabited AV := ⟨.nilp⟩

inductive Ob where
  | none
  | row (sz : Nat) (xs : List AV)
  | cells (cs : List AV)
  | map (es : List (AV × AV))

instance : Inhabited Ob := ⟨.none⟩

abbrev St := List Ob

inductive Slot where
  | val (v : AV)
  | var (cs : List AV)
  | plc (s off : Nat)
  | und
  | top

instance : Inhabited Slot := ⟨.top⟩

abbrev Env := List Slot

def AV.cells : AV → List AV
  | .agg cs => cs
  | v => [v]

/-- One cell's constant. -/
def ofC : Value → Option AV
  | .bool b => some (.bool b)
  | .int k n => some (.int k n)
  | .string s => some (.str s)
  | .pointer none => some .nilp
  | .slice none 0 0 => some (.list true 0 [])
  | .map none => some (.map none)
  | .nilFunc => some .nilf
  | .nilIface => some .nili
  | _ => none

def ofCs : List Value → Option (List AV)
  | [] => some []
  | v :: vs => match ofC v, ofCs vs with
    | some a, some as => some (a :: as)
    | _, _ => none

def ofV : Value → Option AV
  | .agg cs => (ofCs cs.toList).map .agg
  | v => ofC v

def look (env : Env) : Operand → Slot
  | .tmp t => match env[t]? with
    | some (.var _) => .plc t 0
    | some s => s
    | none => .top
  | .const v => match ofV v with
    | some a => .val a
    | none => .top
  | .global _ => .top
  | .func f => .val (.fn f [] [])

/-- A value, no pair of results. -/
def Slot.v : Slot → Option AV
  | .val (.tup _) => none
  | .val v => some v
  | _ => none

def lookV (env : Env) (x : Operand) : Option AV := (look env x).v

def lookVs (env : Env) : List Operand → Option (List AV)
  | [] => some []
  | x :: xs => match lookV env x, lookVs env xs with
    | some a, some as => some (a :: as)
    | _, _ => none

section
variable (P : Program)

def szOf (t : TypeId) : Option Nat := (P.info? t).map (·.size)
def byOf (t : TypeId) : Option Nat := (P.info? t).map (·.bytes)
def zeroOf (t : TypeId) : Option AV := (P.info? t).bind fun i => i.zero.bind ofV
def aggT (t : TypeId) : Option Bool := match P.underlying t with
  | some (.struct _) | some (.array _ _) => some true
  | some _ => some false
  | none => none
/-- The element type of a slice type: its size in cells and its bytes. -/
def elemT (t : TypeId) : Option (TypeId × Nat × Nat) := match P.underlying t with
  | some (.slice e) => match szOf P e, byOf P e with
    | some s, some b => some (e, s, b)
    | _, _ => none
  | _ => none
/-- A field's offset and size in cells. -/
def fieldT (t : TypeId) (f : Nat) : Option (Nat × Nat × TypeId) := match P.underlying t with
  | some (.struct fs) => match fs[f]? with
    | some fd => match szOf P fd.type with
      | some s => if s = 0 then none else some (fd.offset, s, fd.type)
      | none => none
    | none => none
  | _ => none

def partA (t : TypeId) (cs : List AV) (off : Nat) : Option AV :=
  match aggT P t with
  | some true => match szOf P t with
    | some n => if off + n ≤ cs.length then some (.agg ((cs.drop off).take n)) else none
    | none => none
  | some false => cs[off]?
  | none => none

/-- The elements of a slice, each of 'sz' cells. -/
def elems (σ : St) (sz : Nat) : AV → Option (List AV)
  | .list _ s xs => if s == sz || xs.isEmpty then some xs else none
  | .row s id gen off len _ => match σ[id]? with
    | some (.row _ xs) => if s == sz && gen == xs.length then some ((xs.drop off).take len) else none
    | _ => none
  | _ => none

def loadAt (env : Env) (σ : St) (t : TypeId) : Slot → Option AV
  | .plc s off => match env[s]? with
    | some (.var cs) => partA P t cs off
    | _ => none
  | .val (.ptr id off) => match σ[id]? with
    | some (.cells cs) => partA P t cs off
    | _ => none
  | .val (.elm s sz i off) => match elems σ sz s with
    | some xs => match xs[i]? with
      | some x => partA P t x.cells off
      | none => none
    | none => none
  | _ => none

def splice (cs : List AV) (off : Nat) (vs : List AV) : Option (List AV) :=
  if off + vs.length ≤ cs.length then some (cs.take off ++ vs ++ cs.drop (off + vs.length)) else none

def setCells (x : AV) (off : Nat) (vs : List AV) : Option AV :=
  match x with
  | .agg cs => (splice cs off vs).map .agg
  | _ => match off, vs with
    | 0, [v] => some v
    | _, _ => none

/-- 'base': objects below it may not be written. -/
def storeAt (base : Nat) (env : Env) (σ : St) (t : TypeId) (a : Slot) (v : AV) : Option (Env × St) :=
  if szOf P t == some v.cells.length then
    match a with
    | .plc s off => match env[s]? with
      | some (.var cs) => match splice cs off v.cells with
        | some cs' => some (env.set s (.var cs'), σ)
        | none => none
      | _ => none
    | .val (.ptr id off) => if base ≤ id then match σ[id]? with
        | some (.cells cs) => match splice cs off v.cells with
          | some cs' => some (env, σ.set id (.cells cs'))
          | none => none
        | _ => none
      else none
    | .val (.elm (.row s id gen o len _) sz i off) => if base ≤ id then match σ[id]? with
        | some (.row _ xs) => if s == sz && gen == xs.length && decide (i < len) then match xs[o + i]? with
            | some x => match setCells x off v.cells with
              | some x' => some (env, σ.set id (.row sz (xs.set (o + i) x')))
              | none => none
            | none => none
          else none
        | _ => none
      else none
    | _ => none
  else none

def appendTo (base : Nat) (σ : St) (sz bytes : Nat) (s : AV) (ys : List AV) : Option (AV × St) :=
  match s with
  | .list full s' [] =>
    if ys.length * bytes ≤ 140737488355328 && decide (0 < sz) then
      if full then some (.row sz σ.length ys.length 0 ys.length false, σ ++ [.row sz ys])
      else if ys.isEmpty then some (.list full s' [], σ) else none
    else none
  | .list full s' (x :: xs) =>
    if ys.isEmpty then some (.list full s' (x :: xs), σ)
    else if full && s' == sz && decide (((x :: xs).length + ys.length) * bytes ≤ 140737488355328) && decide (0 < sz) then
      some (.row sz σ.length ((x :: xs).length + ys.length) 0 ((x :: xs).length + ys.length) false, σ ++ [.row sz ((x :: xs) ++ ys)])
    else none
  | .row s' id gen off len lim =>
    match σ[id]? with
    | some (.row _ xs) =>
      if s' == sz && gen == xs.length && decide ((len + ys.length) * bytes ≤ 140737488355328) && decide (0 < sz) then
        if lim then
          if ys.isEmpty then some (.row sz id gen off len lim, σ)
          else some (.row sz σ.length (len + ys.length) 0 (len + ys.length) false, σ ++ [.row sz ((xs.drop off).take len ++ ys)])
        else if base ≤ id then
          if off == 0 && len == gen then some (.row sz id (gen + ys.length) 0 (gen + ys.length) false, σ.set id (.row sz (xs ++ ys)))
          else if off + len + ys.length ≤ gen then
            some (.row sz id gen off (len + ys.length) false, σ.set id (.row sz (xs.take (off + len) ++ ys ++ xs.drop (off + len + ys.length))))
          else if off == 0 then some (.row sz id (len + ys.length) 0 (len + ys.length) false, σ.set id (.row sz (xs.take len ++ ys)))
          else none
        else none
      else none
    | _ => none
  | _ => none

/-- 's[lo:hi:mx]'. -/
def sliceOf (sz : Nat) (s : AV) (lo : Option Int) (hi : Option Int) (mx : Option Int) : Option AV :=
  let go (len : Nat) (k : Nat → Nat → Option Nat → Option AV) : Option AV :=
    let h : Int := hi.getD len
    let l : Int := lo.getD 0
    match mx with
    | none => if 0 ≤ l ∧ l ≤ h ∧ h ≤ len then k l.toNat h.toNat none else none
    | some m => if 0 ≤ l ∧ l ≤ h ∧ h ≤ m ∧ m ≤ len ∧ hi.isSome then k l.toNat h.toNat (some m.toNat) else none
  match s with
  | .list full s xs => if s == sz || xs.isEmpty then go xs.length fun l h m => match m with
    | none => some (.list (full && h == xs.length) s ((xs.drop l).take (h - l)))
    | some m => some (.list (m == h) s ((xs.drop l).take (h - l)))
    else none
  | .row s id gen off len lim => if s == sz then go len fun l h m => match m with
    | none => if lim && h != len then none else some (.row s id gen (off + l) (h - l) lim)
    | some m => if m == h then some (.row s id gen (off + l) (h - l) true) else none
    else none
  | _ => none

def cellEq : AV → AV → Option Bool
  | .int k a, .int k' b => if k = k' then some (a == b) else none
  | .bool a, .bool b => some (a == b)
  | .str a, .str b => some (a.toList == b.toList)
  | _, _ => none

def cellsEq : List AV → List AV → Option Bool
  | [], [] => some true
  | x :: xs, y :: ys => match cellEq x y with
    | some true => cellsEq xs ys
    | some false => some false
    | none => none
  | _, _ => none

def keyEq : AV → AV → Option Bool
  | .agg xs, .agg ys => cellsEq xs ys
  | a, b => cellEq a b

def findE (k : AV) : List (AV × AV) → Nat → Option (Option (Nat × AV))
  | [], _ => some none
  | (k', v) :: es, i => match keyEq k k' with
    | some true => some (some (i, v))
    | some false => findE k es (i + 1)
    | none => none

def basicT (t : TypeId) : Bool := match P.underlying t with
  | some .bool | some (.int _) | some .string => true
  | _ => false

def flatFs : List Field → Nat → Bool
  | [], _ => true
  | f :: fs, i => basicT P f.type && f.offset == i && f.name != "_" && szOf P f.type == some 1 && flatFs fs (i + 1)

/-- A struct whose fields are integers, bools or strings, one cell each. -/
def flatT (t : TypeId) : Bool := match P.underlying t with
  | some (.struct fs) => flatFs P fs.toList 0 && szOf P t == some fs.size && !P.stoodInHeld t && !P.eqGuardType P.depth t
  | _ => false

/-- A cell of a basic type. -/
def cellOk (t : TypeId) : AV → Bool
  | .bool _ => match P.underlying t with
    | some .bool => true
    | _ => false
  | .int _ _ => match P.underlying t with
    | some (.int _) => true
    | _ => false
  | .str _ => match P.underlying t with
    | some .string => true
    | _ => false
  | _ => false

def cellsOk : List Field → List AV → Bool
  | [], [] => true
  | f :: fs, c :: cs => cellOk P f.type c && cellsOk fs cs
  | _, _ => false

/-- The key's type, as far as it is served: an integer, a bool, a string, or such a struct; the key's cells are of its fields' types. -/
def keyOk (t : TypeId) : AV → Bool
  | .agg cs => match P.underlying t with
    | some (.struct fs) => flatT P t && cellsOk P fs.toList cs
    | _ => false
  | k => cellOk P t k

def binA (op : BinOp) (t : TypeId) : AV → AV → Option AV
  | .int k a, .int k' b =>
    match op with
    | .shl => if b < 0 then none else some (.int k (k.wrap (a * 2 ^ (min b.toNat k.bits))))
    | .shr => if b < 0 then none else some (.int k (a.fdiv (2 ^ (min b.toNat k.bits))))
    | _ => if k = k' then
        match op with
        | .add => some (.int k (k.wrap (a + b)))
        | .sub => some (.int k (k.wrap (a - b)))
        | .mul => some (.int k (k.wrap (a * b)))
        | .quo => if b = 0 then none else some (.int k (k.wrap (a.tdiv b)))
        | .rem => if b = 0 then none else some (.int k (a.tmod b))
        | .eql => some (.bool (a == b))
        | .neq => some (.bool (a != b))
        | .lss => some (.bool (decide (a < b)))
        | .leq => some (.bool (decide (a ≤ b)))
        | .gtr => some (.bool (decide (a > b)))
        | .geq => some (.bool (decide (a ≥ b)))
        | _ => none
      else none
  | .str a, .str b => match op with
    | .eql => some (.bool (a.toList == b.toList))
    | .neq => some (.bool !(a.toList == b.toList))
    | _ => none
  | .bool a, .bool b => match P.underlying t, op with
    | some .bool, .eql => some (.bool (a == b))
    | some .bool, .neq => some (.bool !(a == b))
    | _, _ => none
  | .agg xs, .agg ys => if keyOk P t (.agg xs) then
      match op with
      | .eql => (cellsEq xs ys).map .bool
      | .neq => (cellsEq xs ys).map fun b => .bool !b
      | _ => none
    else none
  | .nilp, .nilp => match P.underlying t, op with
    | some (.pointer _), .eql => some (.bool true)
    | some (.pointer _), .neq => some (.bool false)
    | _, _ => none
  | .ptr _ _, .nilp => match P.underlying t, op with
    | some (.pointer _), .eql => some (.bool false)
    | some (.pointer _), .neq => some (.bool true)
    | _, _ => none
  | .nilp, .ptr _ _ => match P.underlying t, op with
    | some (.pointer _), .eql => some (.bool false)
    | some (.pointer _), .neq => some (.bool true)
    | _, _ => none
  | .map r, .map none => match P.underlying t, op with
    | some (.map _ _), .eql => some (.bool r.isNone)
    | some (.map _ _), .neq => some (.bool !r.isNone)
    | _, _ => none
  | _, _ => none

def unA (op : UnOp) : AV → Option AV
  | .int k n => match op with
    | .neg => some (.int k (k.wrap (0 - n)))
    | _ => none
  | .bool b => match op with
    | .not => some (.bool !b)
    | _ => none
  | _ => none

/-- The parts of a composite literal, laid over the zero value's cells. -/
def fillA (place : Nat → Option (Nat × Nat)) (cells : List AV) : List (Nat × AV) → Option (List AV)
  | [] => some cells
  | (i, v) :: rest => match place i with
    | none => none
    | some (off, size) => if v.cells.length == size then
        match splice cells off v.cells with
        | some cs => fillA place cs rest
        | none => none
      else none

def lookParts (env : Env) : List (Nat × Operand) → Option (List (Nat × AV))
  | [] => some []
  | (i, x) :: ps => match lookV env x, lookParts env ps with
    | some v, some vs => some ((i, v) :: vs)
    | _, _ => none

/-- Where a struct's field lies: its offset and its size. -/
def placeA (fs : Array Field) (i : Nat) : Option (Nat × Nat) := match fs[i]? with
  | some f => (szOf P f.type).map fun s => (f.offset, s)
  | none => none

def buildA (t : TypeId) (ps : List (Nat × AV)) : Option AV :=
  match P.underlying t, zeroOf P t with
  | some (.struct fs), some z => if fs.toList.all fun f => (szOf P f.type).isSome then (fillA (placeA P fs) z.cells ps).map .agg else none
  | some (.array _ e), some z => match szOf P e with
    | some s => (fillA (fun i => some (i * s, s)) z.cells ps).map .agg
    | none => none
  | _, _ => none

/-- The elements of '[]T{..}': every one of them is given, in order. -/
def listA (sz : Nat) : Nat → List (Nat × AV) → Option (List AV)
  | _, [] => some []
  | n, (i, v) :: ps => if i == n && v.cells.length == sz then (listA sz (n + 1) ps).map (v :: ·) else none

def asN : AV → Option Int
  | .int .i64 n => some n
  | _ => none

def optN (env : Env) : Option Operand → Option (Option Int)
  | none => some none
  | some x => match lookV env x with
    | some (.int .i64 n) => some (some n)
    | _ => none

end
end Go.Can
