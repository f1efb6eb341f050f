/- The evaluator, continued: operations, regions, code, calls. Nothing is claimed here. -/
import Derived.Test.YtgcfhcgnkohfkaaCanA
set_option linter.unusedSimpArgs false
set_option linter.unusedVariables false
namespace Go.Can

section
variable (P : Program)

def lenA (σ : St) : AV → Option Nat
  | .list _ _ xs => some xs.length
  | .row _ _ _ _ len _ => some len
  | .str s => some s.size
  | .map none => some 0
  | .map (some id) => match σ[id]? with
    | some (.map es) => some es.length
    | _ => none
  | _ => none

/-- Does 'len' at this type look into a map? -/
def lenMap (t : TypeId) : Bool := match P.underlying t with
  | some (.map _ _) => true
  | _ => false

def Slot.isPlc : Slot → Bool
  | .plc _ _ => true
  | _ => false

/-- An address is the one of the variable that the text says, or of none. -/
def adrOk (bs : Tmp → Option Tmp) : Operand → Slot → Bool
  | .tmp t, .plc s _ => bs t == some s
  | .tmp t, _ => bs t == none
  | _, _ => false

/-- The operation's own slot is not a variable that lives. -/
def okDst (env : Env) (d : Option Tmp) : Bool := match d with
  | some d => match env[d]? with
    | some (.var _) => false
    | some _ => true
    | none => false
  | none => true

def isv? (isv : Tmp → Bool) : Option Tmp → Bool
  | some d => isv d
  | none => false

def Slot.isPtr : Slot → Bool
  | .val (.ptr _ _) => true
  | _ => false

/-- A load whose slot is marked reads an object of cells alone. -/
def ldOk (isv : Tmp → Bool) (d : Option Tmp) (s : Slot) : Bool := !isv? isv d || s.isPtr

/-- Does the operation lay a new object of the small heap? -/
def allocs (isv : Tmp → Bool) (o : Oper) : Bool := match o.op with
  | .makeSlice .. | .makeMap .. => true
  | .alloc _ | .box .. => !isv? isv o.dst
  | _ => false

def fresh (σ : St) (nid : Nat) : Bool := match σ[nid]? with
  | some .none => true
  | _ => false

def lowMapOk (t : TypeId) : Option (TypeId × TypeId) := match P.underlying t with
  | some (.map k e) => some (k, e)
  | _ => none

def mapGet (σ : St) (t : TypeId) (x k : AV) : Option (Option AV) :=
  match lowMapOk P t with
  | some (kt, _) => if keyOk P kt k then match x with
      | .map none => some none
      | .map (some id) => match σ[id]? with
        | some (.map es) => (findE k es 0).map fun r => r.map (·.2)
        | _ => none
      | _ => none
    else none
  | none => none

def mapPut (base : Nat) (σ : St) (t : TypeId) (x k v : AV) : Option St :=
  match lowMapOk P t with
  | some (kt, _) => if keyOk P kt k then match x with
      | .map (some id) => if base ≤ id then match σ[id]? with
          | some (.map es) => match findE k es 0 with
            | some (some (i, _)) => some (σ.set id (.map (es.set i (k, v))))
            | some none => some (σ.set id (.map (es ++ [(k, v)])))
            | none => none
          | _ => none
        else none
      | _ => none
    else none
  | none => none

def mapDel (base : Nat) (σ : St) (t : TypeId) (x k : AV) : Option St :=
  match lowMapOk P t with
  | some (kt, _) => if keyOk P kt k then match x with
      | .map (some id) => if base ≤ id then match σ[id]? with
          | some (.map es) => match findE k es 0 with
            | some (some (i, _)) => some (σ.set id (.map (es.eraseIdx i)))
            | some none => some σ
            | none => none
          | _ => none
        else none
      | _ => none
    else none
  | none => none

def orZero (r z : Option AV) : Option AV := match r with
  | some v => some v
  | none => z

/-- The zero value of this type has so many cells. -/
def zeroOk (e : TypeId) (sz : Nat) : Bool := match zeroOf P e with
  | some z => z.cells.length == sz && decide (0 < sz)
  | none => false

/-- A slice's length. -/
def lenS : AV → Option Nat
  | .list _ _ xs => some xs.length
  | .row _ _ _ _ len _ => some len
  | _ => none

/-- A slice that has an element, compared with 'nil'. -/
def nilEq (op : BinOp) (t : TypeId) (y : Operand) (a : AV) : Bool := match op, y, a, P.underlying t with
  | .eql, .const (.slice none 0 0), .list _ _ (_ :: _), some (.slice _) => true
  | _, _, _, _ => false

abbrev CallF := FuncId → List AV → St → Nat → Option (AV × St)

def evalBuiltin (base : Nat) (b : Builtin) (ts : List TypeId) (σ : St) (args : List AV) : Option (AV × St) :=
  match b, ts, args with
  | .append, [t, t'], [s, x] => match elemT P t, elemT P t' with
    | some (e, sz, bytes), some _ => if zeroOk P e sz && decide (0 < bytes) then match elems σ sz x with
      | some ys => appendTo base σ sz bytes s ys
      | none => none
      else none
    | _, _ => none
  | .len, [t], [x] => match P.underlying t with
    | some (.slice _) => match lenS x with
      | some n => some (.int .i64 n, σ)
      | none => none
    | some .string => match x with
      | .str s => some (.int .i64 s.size, σ)
      | _ => none
    | some (.map _ _) => match x with
      | .map none => some (.int .i64 0, σ)
      | .map (some id) => match σ[id]? with
        | some (.map es) => some (.int .i64 es.length, σ)
        | _ => none
      | _ => none
    | _ => none
  | .delete, t :: _, [x, k] => match mapDel P base σ t x k with
    | some σ' => some (.tup [], σ')
    | none => none
  | _, _, _ => none

def evalV (call : CallF) (base : Nat) (isv : Tmp → Bool) (bs : Tmp → Option Tmp) (nid : Nat) (env : Env) (σ : St) (o : Oper) : Option (St × Slot) :=
  match o.op with
  | .move x | .assign x => match look env x with
    | .top => none
    | s => some (σ, s)
  | .pick c a b => match lookV env c with
    | some (.bool t) => match lookV env (if t then a else b) with
      | some v => some (σ, .val v)
      | none => none
    | _ => none
  | .alloc e => match zeroOf P e with
    | some z => if isv? isv o.dst then some (σ, .var z.cells)
      else if fresh σ nid && decide (base ≤ nid) then some (σ.set nid (.cells z.cells), .val (.ptr nid 0)) else none
    | none => none
  | .box _ x => match lookV env x with
    | some z => if isv? isv o.dst then some (σ, .var z.cells)
      else if fresh σ nid && decide (base ≤ nid) then some (σ.set nid (.cells z.cells), .val (.ptr nid 0)) else none
    | none => none
  | .build t ps => match lookParts env ps.toList with
    | some vs => match buildA P t vs with
      | some v => some (σ, .val v)
      | none => none
    | none => none
  | .buildSlice t n ps => match elemT P t, lookParts env ps.toList with
    | some (e, sz, _), some vs => if vs.length == n && decide (n * sz ≤ 16777216) && (zeroOf P e).isSome && decide (0 < sz) then match listA sz 0 vs with
        | some xs => some (σ, .val (.list true sz xs))
        | none => none
      else none
    | _, _ => none
  | .load t a => if adrOk bs a (look env a) && ldOk isv o.dst (look env a) then match loadAt P env σ t (look env a) with
      | some v => some (σ, .val v)
      | none => none
    else none
  | .nilCheck x => match look env x with
    | .plc s off => some (σ, .plc s off)
    | .val (.ptr id off) => some (σ, .val (.ptr id off))
    | .val (.elm s sz i off) => some (σ, .val (.elm s sz i off))
    | .val (.fn f fi c) => some (σ, .val (.fn f fi c))
    | _ => none
  | .binOp op t x y _ => match lookV env x, lookV env y with
    | some a, some b => match binA P op t a b with
      | some v => some (σ, .val v)
      | none => if nilEq P op t y a then some (σ, .val (.bool false)) else none
    | _, _ => none
  | .unOp op _ x => match lookV env x with
    | some a => match unA op a with
      | some v => some (σ, .val v)
      | none => none
    | none => none
  | .convert t d x => match P.underlying t, P.underlying d, lookV env x with
    | some (.int _), some (.int k), some (.int _ n) => some (σ, .val (.int k (k.wrap n)))
    | _, _, _ => none
  | .makeFunc (.func f) first cap => match lookVs env first.toList, lookVs env cap.toList with
    | some a, some b => if (a.all fun v => match v with | .agg _ => false | _ => true) && (b.all fun v => match v with | .agg _ => false | _ => true) then some (σ, .val (.fn f a b)) else none
    | _, _ => none
  | .makeMap t none => match lowMapOk P t with
    | some _ => if fresh σ nid && decide (base ≤ nid) then some (σ.set nid (.map []), .val (.map (some nid))) else none
    | none => none
  | .makeMap t (some r) => match lowMapOk P t, lookV env r with
    | some _, some (.int _ _) => if fresh σ nid && decide (base ≤ nid) then some (σ.set nid (.map []), .val (.map (some nid))) else none
    | _, _ => none
  | .makeSlice t l c => match elemT P t, lookV env l, lookV env c with
    | some (e, sz, bytes), some (.int .i64 n), some (.int .i64 m) => match zeroOf P e with
      | some z => if 0 ≤ n ∧ n ≤ m ∧ m * bytes ≤ 140737488355328 ∧ m ≤ 140737488355328 ∧ 0 < sz ∧ z.cells.length = sz ∧ fresh σ nid = true ∧ base ≤ nid then
          some (σ.set nid (.row sz (List.replicate n.toNat z)), .val (.row sz nid n.toNat 0 n.toNat false)) else none
      | none => none
    | _, _, _ => none
  | .slice t x lo hi mx => match elemT P t, lookV env x, optN env lo, optN env hi, optN env mx with
    | some (_, sz, _), some s, some l, some h, some m => match sliceOf sz s l h m with
      | some v => some (σ, .val v)
      | none => none
    | _, _, _, _, _ => none
  | .fieldAddr t x f => match fieldT P t f, look env x with
    | some (o, _, _), .plc s off => some (σ, .plc s (off + o))
    | some (o, _, _), .val (.ptr id off) => some (σ, .val (.ptr id (off + o)))
    | some (o, _, _), .val (.elm s sz i off) => some (σ, .val (.elm s sz i (off + o)))
    | _, _ => none
  | .field t x f => match fieldT P t f, lookV env x with
    | some (o, _, ft), some (.agg cs) => match partA P ft cs o with
      | some v => some (σ, .val v)
      | none => none
    | _, _ => none
  | .indexAddr t x i => match elemT P t, lookV env x, lookV env i with
    | some (_, sz, _), some s, some (.int _ n) => match lenS s with
      | some len => if 0 ≤ n ∧ n < len then some (σ, .val (.elm s sz n.toNat 0)) else none
      | none => none
    | _, _, _ => none
  | .lookup t x k ok => match lookV env x, lookV env k with
    | some m, some kv => match mapGet P σ t m kv with
      | some r => match lowMapOk P t with
        | some (_, e) => match orZero r (zeroOf P e) with
          | some v => if ok then some (σ, .val (.tup [v, .bool r.isSome])) else some (σ, .val v)
          | none => none
        | none => none
      | none => none
    | _, _ => none
  | .mapUpdate t m k x => match lookV env m, lookV env k, lookV env x with
    | some mv, some kv, some v => match mapPut P base σ t mv kv v with
      | some σ' => some (σ', .und)
      | none => none
    | _, _, _ => none
  | .extract x i => match look env x with
    | .val (.tup vs) => match vs[i]? with
      | some v => some (σ, .val v)
      | none => none
    | _ => none
  | .call c => match lookVs env c.args.toList with
    | some args => match c.callee with
      | .builtin b => match evalBuiltin P base b c.argTypes.toList σ args with
        | some (v, σ') => some (σ', .val v)
        | none => none
      | .value f => match lookV env f with
        | some (.fn g first cap) => match call g (first ++ args ++ cap) σ base with
          | some (v, σ') => some (σ', .val v)
          | none => none
        | _ => none
      | .invoke .. => none
    | none => none
  | _ => none

/-- A store changes a local variable, or an object. -/
def evalS (base : Nat) (bs : Tmp → Option Tmp) (env : Env) (σ : St) (t : TypeId) (a x : Operand) : Option (Env × St) :=
  if adrOk bs a (look env a) then match lookV env x with
    | some v => storeAt P base env σ t (look env a) v
    | none => none
  else none

def evalOp (call : CallF) (base : Nat) (isv : Tmp → Bool) (bs : Tmp → Option Tmp) (nid : Nat) (env : Env) (σ : St) (o : Oper) : Option (Env × St × Slot) :=
  match o.op with
  | .store t a x => match evalS P base bs env σ t a x with
    | some (env', σ') => some (env', σ', .und)
    | none => none
  | _ => match evalV P call base isv bs nid env σ o with
    | some (σ', sl) => some (env, σ', sl)
    | none => none

/-- Is the operation's guard met? none: it is not known. -/
def wantedA (ops : List Oper) (env : Env) (o : Oper) : Option Bool :=
  match o.guard with
  | none => some true
  | some (j, want) => match (ops[j]?).bind (·.dst) with
    | none => some false
    | some d => match env[d]? with
      | some (.val (.bool b)) => some (b == want)
      | some .und => some false
      | some (.val (.int _ _)) => some false
      | _ => none

def putA (env : Env) : Option Tmp → Slot → Env
  | some d, s => env.set d s
  | none, _ => env

/-- The static address words of a region: which temporaries hold the address of a local variable, and of which one. -/
def baseOf (isv : Tmp → Bool) : List Oper → List (Tmp × Tmp) → List (Tmp × Tmp)
  | [], acc => acc
  | o :: os, acc => match o.op, o.dst with
    | .fieldAddr _ (.tmp t) _, some d =>
      if isv t then baseOf isv os ((d, t) :: acc)
      else match acc.lookup t with
        | some b => baseOf isv os ((d, b) :: acc)
        | none => baseOf isv os acc
    | _, _ => baseOf isv os acc

def baseAt (isv : Tmp → Bool) (bs : List (Tmp × Tmp)) (t : Tmp) : Option Tmp := if isv t then some t else bs.lookup t

def stepA (call : CallF) (base : Nat) (isv : Tmp → Bool) (bs : Tmp → Option Tmp) (ops : List Oper) (n0 : Nat) (i : Nat) (s : Env × St) : Option (Env × St) :=
  match ops[i]? with
  | none => some s
  | some o => if okDst s.1 o.dst then match wantedA ops s.1 o with
    | some true => match evalOp P call base isv bs (n0 + (ops.take i).countP (allocs isv)) s.1 s.2 o with
      | some (env, σ, sl) => some (putA env o.dst sl, σ)
      | none => none
    | some false => some (putA s.1 o.dst .und, s.2)
    | none => none
    else none

def runA (step : Nat → Env × St → Option (Env × St)) : List Nat → Env × St → Option (Env × St)
  | [], s => some s
  | i :: is, s => match step i s with
    | some s' => runA step is s'
    | none => none

/-! The order of a region's operations: what makes two of them exchangeable. -/

inductive HC where
  | no | rd | call | new | wr | grow | rdc | app

def hcOf (pure grow : FuncId → Bool) (isv : Tmp → Bool) (bs : Tmp → Option Tmp) (o : Oper) : HC := match o.op with
  | .load _ (.tmp t) => if (bs t).isSome then .no else if isv? isv o.dst then .rdc else .rd
  | .store _ (.tmp t) _ => if (bs t).isSome then .no else .wr
  | .lookup .. => .rd
  | .mapUpdate .. => .wr
  | .makeSlice .. | .makeMap .. => .new
  | .alloc _ | .box .. => if isv? isv o.dst then .no else .new
  | .call { callee := .builtin .len, argTypes := ts, .. } => match ts.toList with
    | [t] => if lenMap P t then .rd else .no
    | _ => .wr
  | .call { callee := .builtin .append, .. } => .app
  | .call { callee := .value (.func f), .. } => if pure f then .call else if grow f then .grow else .wr
  | .call _ => .wr
  | .load .. | .store .. => .wr
  | _ => .no

def HC.ok : HC → HC → Bool
  | .no, _ | _, .no => true
  | .rd, .rd | .rd, .call | .call, .rd | .call, .call => true
  | .rd, .new => true
  | .rd, .grow => true
  | .rdc, .rd | .rd, .rdc | .rdc, .rdc | .rdc, .call | .call, .rdc | .rdc, .new | .rdc, .grow | .rdc, .app => true
  | .new, .new => true
  | _, _ => false

def readsOf (bs : Tmp → Option Tmp) (ops : List Oper) (o : Oper) : List Tmp :=
  o.op.operands.toList.filterMap (fun | .tmp t => some t | _ => none) ++
  (match o.op with
    | .load _ (.tmp t) | .store _ (.tmp t) _ => (bs t).toList
    | .alloc _ | .box .. => o.dst.toList
    | _ => []) ++
  (match o.guard with
    | some (j, _) => ((ops[j]?).bind (·.dst)).toList
    | none => [])

def writesOf (bs : Tmp → Option Tmp) (o : Oper) : List Tmp :=
  o.dst.toList ++ (match o.op with
    | .store _ (.tmp t) _ => (bs t).toList
    | _ => [])

def disj (a b : List Tmp) : Bool := a.all fun x => !b.contains x

/-- 'x' stands before 'y' in the text: may 'y' be carried out first? -/
def indep (pure grow : FuncId → Bool) (isv : Tmp → Bool) (bs : Tmp → Option Tmp) (ops : List Oper) (x y : Oper) : Bool :=
  disj (writesOf bs x) (readsOf bs ops y) && disj (writesOf bs x) (writesOf bs y) && disj (writesOf bs y) (readsOf bs ops x) &&
  HC.ok (hcOf P pure grow isv bs x) (hcOf P pure grow isv bs y)

/-- Every two operations of the region that its edges leave open are exchangeable. -/
def regionOk (pure grow : FuncId → Bool) (isv : Tmp → Bool) (bs : Tmp → Option Tmp) (ops : Array Oper) : Bool :=
  let b := Region.before ops
  (List.range ops.size).all fun j => match ops[j]? with
    | none => true
    | some y => (y.after.toList.all fun e => !Region.binds .any e || decide (e.on < j)) && (List.range j).all fun i => match ops[i]? with
      | none => true
      | some x => if (b.getD j 0).testBit i then y.after.toList.any fun e => Region.binds .any e && (e.on == i || (decide (i < e.on) && (b.getD e.on 0).testBit i))
        else indep P pure grow isv bs ops.toList x y

/-! Code. -/

inductive Out where
  | normal
  | exit (id : Nat)
  | ret

abbrev S := Env × St

def clearA (keep : Tmp → Bool) : List Oper → Env → Env
  | [], env => env
  | o :: os, env => match o.dst with
    | some d => clearA keep os (if keep d then env else match env[d]? with
      | some (.var _) => env
      | _ => env.set d .top)
    | none => clearA keep os env

/-- What of the frame is kept at a loop's head: the slots that 'live' names; none of them may be the address of a variable. -/
def maskA (live : Tmp → Bool) : Nat → Env → Option Env
  | _, [] => some []
  | i, s :: env => match maskA live (i + 1) env with
    | none => none
    | some env' => if live i then match s with
        | .plc _ _ => none
        | s => some (s :: env')
      else some (.top :: env')

/-- One round of a loop: its head, its body. -/
def roundA (mk : Code → Option Out → Env → Option Env) (ex : S → Option (Out × S)) (a : Code) (s : S) : Option (Out × S) := match mk a none s.1 with
  | some e => ex (e, s.2)
  | none => none

def execC (rg : Nat → Array Oper → Bool → S → Option S) (mk : Code → Option Out → Env → Option Env) (lp : (S → Option (Out × S)) → S → Option (Out × S)) : Code → S → Option (Out × S)
  | .skip, s => some (.normal, s)
  | .label _, s => some (.normal, s)
  | .region id ops d, s => match rg id ops d s with
    | some s' => some (.normal, s')
    | none => none
  | .seq a b, s => match execC rg mk lp a s with
    | some (.normal, s') => execC rg mk lp b s'
    | r => r
  | .cond c a b, s => match lookV s.1 c with
    | some (.bool true) => execC rg mk lp a s
    | some (.bool false) => execC rg mk lp b s
    | _ => none
  | .block id a, s => match execC rg mk lp a s with
    | some (.exit i, s') => if i = id then some (.normal, s') else some (.exit i, s')
    | r => r
  | .loop a, s => match lp (roundA mk (execC rg mk lp a) a) s with
    | some (out, s') => match mk a (some out) s'.1 with
      | some e => some (out, e, s'.2)
      | none => none
    | none => none
  | .exit id, s => some (.exit id, s)
  | .ret, s => some (.ret, s)
  | _, _ => none

def loopN (body : S → Option (Out × S)) : Nat → S → Option (Out × S)
  | 0, _ => none
  | n + 1, s => match body s with
    | some (.normal, s') => loopN body n s'
    | r => r

/-! Calls. -/

/-- What a user of the evaluator lays down of each function: which slots are local variables that no address leaves; which slots live behind the region that writes them; which slots live at a loop's head, and behind it; which functions leave no object behind; which ones write into none that stands when they are called; functions that stand for themselves. -/
structure Cfg where
  vars : FuncId → List Tmp
  keep : FuncId → List Tmp
  live : FuncId → Code → Option Out → List Tmp
  pure : FuncId → Bool
  grow : FuncId → Bool
  prim : FuncId → Option (List AV → St → Nat → Option (AV × St))

def regionA (cf : Cfg) (call : CallF) (base : Nat) (f : FuncId) (_id : Nat) (ops : Array Oper) (draw : Bool) (s : S) : Option S :=
  let isv := fun t => (cf.vars f).contains t
  let bl := baseOf isv ops.toList []
  let bs := baseAt isv bl
  if !draw || regionOk P cf.pure cf.grow isv bs ops then
    match runA (stepA P call base isv bs ops.toList s.2.length) (List.range ops.size) (s.1, s.2 ++ List.replicate (ops.toList.countP (allocs isv)) .none) with
    | some (env, σ) => some (clearA (fun t => (cf.keep f).contains t) ops.toList env, σ)
    | none => none
  else none

def resOf (env : Env) (σ : St) : List ResultVar → Option (List AV)
  | [] => some []
  | .tmp t :: rs => match lookV env (.tmp t), resOf env σ rs with
    | some v, some vs => some (v :: vs)
    | _, _ => none
  | .cell a t :: rs => match loadAt P env σ t (look env (.tmp a)), resOf env σ rs with
    | some v, some vs => some (v :: vs)
    | _, _ => none

def mkRes : List AV → AV
  | [v] => v
  | vs => .tup vs

/-- A result of a function that leaves no object behind: its own rows become lists. -/
def freezeL (fz : AV → Option AV) : List AV → Option (List AV)
  | [] => some []
  | v :: vs => match fz v, freezeL fz vs with
    | some a, some as => some (a :: as)
    | _, _ => none

def freeze (base : Nat) (σ : St) : Nat → AV → Option AV
  | 0, _ => none
  | n + 1, v => match v with
    | .int .. | .bool _ | .str _ | .nilp | .nilf | .nili | .map none => some v
    | .list f sz xs => (freezeL (freeze base σ n) xs).map (.list f sz)
    | .agg cs => (freezeL (freeze base σ n) cs).map .agg
    | .tup vs => (freezeL (freeze base σ n) vs).map .tup
    | .row sz id gen off len lim => if id < base then some (.row sz id gen off len lim) else
        match elems σ sz (.row sz id gen off len lim) with
        | some xs => (freezeL (freeze base σ n) xs).map (.list false sz)
        | none => none
    | .ptr id off => if id < base then some (.ptr id off) else none
    | .map (some id) => if id < base then some (.map (some id)) else none
    | .fn f [] [] => some (.fn f [] [])
    | _ => none

def bodyA (cf : Cfg) (call : CallF) (lp : (S → Option (Out × S)) → S → Option (Out × S)) (f : FuncId) (fn : Func) (c : Code) (args : List AV) (σ : St) (base : Nat) : Option (AV × St) :=
  match execC (regionA P cf call base f) (fun c o e => maskA (fun t => (cf.live f c o).contains t) 0 e) lp c (args.map .val ++ List.replicate (fn.ntmps - args.length) .und, σ) with
  | some (.normal, s) | some (.ret, s) => match resOf P s.1 s.2 fn.results.toList with
    | some vs => some (mkRes vs, s.2)
    | none => none
  | _ => none

def enterA (cf : Cfg) (call : CallF) (lp : (S → Option (Out × S)) → S → Option (Out × S)) (f : FuncId) (args : List AV) (σ : St) (base : Nat) : Option (AV × St) :=
  match cf.prim f with
  | some p => p args σ base
  | none => match P.funcs[f]? with
    | some fn => match fn.body with
      | some c => if cf.pure f then
          match bodyA P cf call lp f fn c args (if args.isEmpty then [] else σ) (if args.isEmpty then [] else σ).length with
          | some (v, σ') => match freeze (if args.isEmpty then [] else σ).length σ' 6 v with
            | some v' => some (v', σ)
            | none => none
          | none => none
        else bodyA P cf call lp f fn c args σ (if cf.grow f then σ.length else base)
      | none => none
    | none => none

def callN (cf : Cfg) : Nat → CallF
  | 0 => fun _ _ _ _ => none
  | n + 1 => fun f args σ base => enterA P cf (callN cf n) (fun b s => loopN b n s) f args σ base

end
end Go.Can
