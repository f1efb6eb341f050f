/- The worklist's functions: the evaluator's knobs. The tables are printed by tools/Cfg.lean. -/
import Derived.Test.YtgpopkpepebibaaCanX
import Derived.Test.YtgpopkpepebibaaRows
set_option linter.unusedSimpArgs false
set_option linter.unusedVariables false
namespace Go.Can
open Go Go.Proofs

def cfVars : FuncId → List Tmp
  | 3 => [5, 10, 12]
  | 4 => [3]
  | 5 => [5]
  | 6 => [2, 5, 7, 10, 13]
  | 7 => [2, 5, 7, 11]
  | 8 => [1, 6]
  | 9 => [2]
  | 10 => [1, 3]
  | 13 => [2, 4, 7]
  | 14 => [1]
  | 15 => [1]
  | 16 => [1]
  | 18 => [1]
  | 19 => [2, 4]
  | 20 => [2, 3]
  | 21 => [1, 3]
  | 22 => [2]
  | 25 => [2]
  | _ => []

def cfKeep : FuncId → List Tmp
  | 3 => [0, 1, 4, 5, 6, 7, 8, 9, 10, 11, 12, 13, 14, 22, 31, 44, 48, 55, 66, 68, 73, 89, 97, 99, 101, 111]
  | 4 => [0, 2, 3, 4, 5, 6, 9, 22, 45]
  | 5 => [0, 1, 4, 5, 6, 7, 8, 9, 10, 11, 19, 33, 58, 62, 118]
  | 6 => [0, 1, 2, 4, 5, 6, 7, 8, 9, 10, 11, 12, 13, 14, 15, 25, 31, 52, 78, 81]
  | 7 => [0, 1, 2, 4, 5, 6, 7, 8, 9, 10, 11, 12, 22, 31, 52, 79]
  | 8 => [0, 1, 2, 3, 4, 5, 7]
  | 9 => [0, 2, 3, 6]
  | 10 => [0, 1, 2, 3, 4, 5, 14]
  | 11 => [0, 1, 4, 5, 6, 13, 27]
  | 12 => [0, 1, 4, 5, 6, 10, 18]
  | 13 => [0, 1, 2, 4, 5, 6, 7, 8, 12, 18, 30, 35, 59]
  | 14 => [0, 1, 2, 5]
  | 15 => [0, 1, 2, 5]
  | 16 => [0, 1, 2, 3, 4, 5, 15, 21, 22, 23, 24, 28, 33, 37]
  | 17 => [0, 1, 4, 5, 10, 14, 25]
  | 18 => [0, 1, 2, 3, 4, 14, 19, 27, 33, 41]
  | 19 => [0, 1, 2, 4, 5, 6, 7, 8, 12, 19, 25, 30, 53]
  | 20 => [0, 1, 2, 3, 4]
  | 21 => [0, 1, 2, 3, 4, 13]
  | 22 => [0, 1, 2, 4]
  | 23 => [0, 2]
  | 24 => [0, 1, 2, 6]
  | 25 => [0, 1, 2, 4, 8]
  | 26 => [0, 1, 4]
  | 27 => [0, 1, 2, 6, 15]
  | 28 => [0, 1, 2, 6, 7, 8, 9, 16, 22, 31, 68]
  | 29 => [0, 1, 4, 7]
  | 30 => [0, 1, 4, 5, 9, 17]
  | 31 => [0, 1, 4, 5, 7, 8, 9, 16]
  | 33 => [0, 1]
  | 34 => [0, 1]
  | 35 => [0, 2, 3, 9]
  | _ => []

def cfLive : FuncId → Nat → List Tmp
  | 3, 10 => [0, 1, 5, 7, 8]
  | 4, 6 => [0, 3, 4, 5, 6]
  | 5, 5 => [0, 1, 5, 6, 7]
  | 5, 12 => [0, 8, 9]
  | 11, 3 => [0, 1, 5, 6]
  | 12, 3 => [0, 1, 5, 6]
  | 13, 12 => [1, 2, 4, 7, 8]
  | 16, 5 => [1, 3, 21, 22, 23]
  | 17, 4 => [0, 1, 5]
  | 18, 4 => [1, 3]
  | 19, 11 => [1, 2, 4, 7]
  | 30, 2 => [0, 1, 5]
  | 31, 2 => [0, 1, 7, 8]
  | 35, 1 => [0, 2, 3]
  | _, _ => []

def cfOut : FuncId → Nat → Nat → List Tmp
  | 3, 10, 0 => [5, 7]
  | 4, 6, 0 => [3, 4, 5]
  | 5, 5, 0 => [0, 5, 6]
  | 5, 12, 2 => []
  | 11, 3, 0 => [5]
  | 12, 3, 0 => [5]
  | 13, 12, 0 => [1, 4, 7, 8]
  | 16, 5, 0 => []
  | 17, 4, 0 => []
  | 18, 4, 0 => []
  | 19, 11, 0 => [1, 2, 4, 7]
  | 30, 2, 0 => []
  | 31, 2, 0 => []
  | 35, 1, 0 => []
  | _, _, _ => []

def cfRes : FuncId → List Tmp
  | 3 => [4]
  | 4 => [2]
  | 5 => [4]
  | 6 => [4]
  | 7 => [4]
  | 8 => [0]
  | 9 => [2, 3]
  | 10 => [2, 3, 4]
  | 11 => [4]
  | 12 => [4]
  | 13 => [4, 5]
  | 14 => [2]
  | 15 => [2]
  | 16 => [2]
  | 17 => [4]
  | 18 => [2]
  | 19 => [4, 5]
  | 20 => [4]
  | 21 => [2, 3, 4]
  | 22 => [4]
  | 23 => [2]
  | 24 => [6]
  | 25 => [4]
  | 26 => [4]
  | 27 => [6]
  | 28 => [6]
  | 29 => [4]
  | 30 => [4]
  | 31 => [4]
  | _ => []

def cfPure : FuncId → Bool
  | 23 | 12 | 28 => false
  | _ => true

def cfGrow : FuncId → Bool
  | 23 | 12 => true
  | _ => false

def liveW (f : FuncId) (r : Option Nat) (o : Option Out) : List Tmp := match r, o with
  | some r, none => cfLive f r
  | some _, some .ret => cfRes f
  | some r, some (.exit i) => cfOut f r i
  | _, _ => []

/-- slices.Insert of one number into a row of the small heap. -/
def insP : List AV → St → Nat → Option (AV × St)
  | [.row 1 id gen 0 len false, .int .i64 i, .list true 1 [.int .i64 x]], σ, base => match σ[id]? with
    | some (.row 1 xs) => if base ≤ id ∧ gen = xs.length ∧ len = gen ∧ 0 ≤ i ∧ i ≤ gen ∧ (gen + 1) * 8 ≤ 140737488355328 then
        some (.row 1 id (gen + 1) 0 (gen + 1) false, σ.set id (.row 1 (xs.take i.toNat ++ .int .i64 x :: xs.drop i.toNat)))
      else none
    | _ => none
  | _, _, _ => none

def cfW : Cfg where
  vars := cfVars
  keep := cfKeep
  live := fun f c o => liveW f (regOf c) o
  pure := cfPure
  grow := cfGrow
  prim := fun | 28 => some insP | _ => none

@[go_sem] theorem cfW_keep : cfW.keep = cfKeep := rfl
@[go_sem] theorem cfW_isv {f : FuncId} {t : Tmp} : isvOf cfW f t = (cfVars f).contains t := rfl
@[go_sem] theorem cfW_mk {f : FuncId} {c : Code} {o : Option Out} {e : Env} : mkT cfW f c o e = maskA (fun t => (liveW f (regOf c) o).contains t) 0 e := rfl

@[go_sem] theorem ag3 : aggT Try.prog 3 = some false := by kernel_rfl
@[go_sem] theorem sz3 : szOf Try.prog 3 = some 1 := by kernel_rfl
@[go_sem] theorem un3 : Try.prog.underlying 3 = some (.int .i64) := by kernel_rfl
@[go_sem] theorem ze3 : zeroOf Try.prog 3 = some (.int .i64 (0)) := by kernel_rfl
@[go_sem] theorem zk3 : zeroOk Try.prog 3 1 = true := by kernel_rfl
@[go_sem] theorem ag4 : aggT Try.prog 4 = some false := by kernel_rfl
@[go_sem] theorem sz4 : szOf Try.prog 4 = some 1 := by kernel_rfl
@[go_sem] theorem un4 : Try.prog.underlying 4 = some .bool := by kernel_rfl
@[go_sem] theorem ze4 : zeroOf Try.prog 4 = some (.bool false) := by kernel_rfl
@[go_sem] theorem zk4 : zeroOk Try.prog 4 1 = true := by kernel_rfl
@[go_sem] theorem ag5 : aggT Try.prog 5 = some false := by kernel_rfl
@[go_sem] theorem sz5 : szOf Try.prog 5 = some 1 := by kernel_rfl
@[go_sem] theorem un5 : Try.prog.underlying 5 = some (.int .u8) := by kernel_rfl
@[go_sem] theorem ze5 : zeroOf Try.prog 5 = some (.int .u8 (0)) := by kernel_rfl
@[go_sem] theorem zk5 : zeroOk Try.prog 5 1 = true := by kernel_rfl
@[go_sem] theorem el22 : elemT Try.prog 22 = some (3, 1, 8) := by kernel_rfl
@[go_sem] theorem ag22 : aggT Try.prog 22 = some false := by kernel_rfl
@[go_sem] theorem sz22 : szOf Try.prog 22 = some 1 := by kernel_rfl
@[go_sem] theorem un22 : Try.prog.underlying 22 = some (.slice 3) := by kernel_rfl
@[go_sem] theorem ze22 : zeroOf Try.prog 22 = some (.list true 0 []) := by kernel_rfl
@[go_sem] theorem zk22 : zeroOk Try.prog 22 1 = true := by kernel_rfl
@[go_sem] theorem ag25 : aggT Try.prog 25 = some true := by kernel_rfl
@[go_sem] theorem sz25 : szOf Try.prog 25 = some 2 := by kernel_rfl
@[go_sem] theorem fi25_0 : fieldT Try.prog 25 0 = some (0, 1, 22) := by kernel_rfl
@[go_sem] theorem fi25_1 : fieldT Try.prog 25 1 = some (1, 1, 22) := by kernel_rfl
@[go_sem] theorem bu25 {ps : List (Nat × AV)} : buildA Try.prog 25 ps = (fillA (fun i => ([some (0, 1), some (1, 1)][i]?).join) [(.list true 0 []), (.list true 0 [])] ps).map .agg := buildA_struct (by kernel_rfl)
@[go_sem] theorem ze25 : zeroOf Try.prog 25 = some (.agg [(.list true 0 []), (.list true 0 [])]) := by kernel_rfl
@[go_sem] theorem zk25 : zeroOk Try.prog 25 2 = true := by kernel_rfl
@[go_sem] theorem ag26 : aggT Try.prog 26 = some false := by kernel_rfl
@[go_sem] theorem sz26 : szOf Try.prog 26 = some 1 := by kernel_rfl
@[go_sem] theorem un26 : Try.prog.underlying 26 = some (.int .i64) := by kernel_rfl
@[go_sem] theorem ze26 : zeroOf Try.prog 26 = some (.int .i64 (0)) := by kernel_rfl
@[go_sem] theorem zk26 : zeroOk Try.prog 26 1 = true := by kernel_rfl
@[go_sem] theorem el38 : elemT Try.prog 38 = some (39, 1, 2) := by kernel_rfl
@[go_sem] theorem ag38 : aggT Try.prog 38 = some false := by kernel_rfl
@[go_sem] theorem sz38 : szOf Try.prog 38 = some 1 := by kernel_rfl
@[go_sem] theorem un38 : Try.prog.underlying 38 = some (.slice 39) := by kernel_rfl
@[go_sem] theorem ze38 : zeroOf Try.prog 38 = some (.list true 0 []) := by kernel_rfl
@[go_sem] theorem zk38 : zeroOk Try.prog 38 1 = true := by kernel_rfl
@[go_sem] theorem ag39 : aggT Try.prog 39 = some false := by kernel_rfl
@[go_sem] theorem sz39 : szOf Try.prog 39 = some 1 := by kernel_rfl
@[go_sem] theorem un39 : Try.prog.underlying 39 = some (.int .u16) := by kernel_rfl
@[go_sem] theorem ze39 : zeroOf Try.prog 39 = some (.int .u16 (0)) := by kernel_rfl
@[go_sem] theorem zk39 : zeroOk Try.prog 39 1 = true := by kernel_rfl
@[go_sem] theorem ag48 : aggT Try.prog 48 = some false := by kernel_rfl
@[go_sem] theorem sz48 : szOf Try.prog 48 = some 1 := by kernel_rfl
@[go_sem] theorem un48 : Try.prog.underlying 48 = some (.map 3 4) := by kernel_rfl
@[go_sem] theorem ze48 : zeroOf Try.prog 48 = some (.map none) := by kernel_rfl
@[go_sem] theorem zk48 : zeroOk Try.prog 48 1 = true := by kernel_rfl
@[go_sem] theorem lm48 : lowMapOk Try.prog 48 = some (3, 4) := by kernel_rfl

def ints (xs : List Int) : List AV := xs.map (AV.int .i64)

end Go.Can
