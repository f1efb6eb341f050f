/- Tools for the functions' contracts: the text's order without the check; slices, however they lie. -/
import Derived.Test.YtgcfhcgnkohfkaaCanV
set_option linter.unusedSimpArgs false
set_option linter.unusedVariables false
namespace Go.Can
open Go Go.RowKit

section
variable {P : Program} {C : CallF} {cf : Cfg} {base : Nat}

/-- The operations of a region one after another. -/
def runO (P : Program) (C : CallF) (base : Nat) (isv : Tmp → Bool) (bs : Tmp → Option Tmp) (ops : List Oper) : List Oper → Nat → S → Option S
  | [], _, s => some s
  | o :: rest, nid, s => match stepO P C base isv bs ops nid o s with
    | some s' => runO P C base isv bs ops rest (if allocs isv o then nid + 1 else nid) s'
    | none => none

theorem runO_eq {isv : Tmp → Bool} {bs : Tmp → Option Tmp} {ops : List Oper} {n0 : Nat} : ∀ {rest pre : List Oper} {s : S}, ops = pre ++ rest →
    runA (stepA P C base isv bs ops n0) (List.range' pre.length rest.length) s = runO P C base isv bs ops rest (n0 + pre.countP (allocs isv)) s
  | [], pre, s, _ => rfl
  | o :: rest, pre, s, h => by
    have hi : ops[pre.length]? = some o := by rw [h]; simp
    have ht : ops.take pre.length = pre := by rw [h]; simp
    have hpre : ops = (pre ++ [o]) ++ rest := by rw [h]; simp
    have ih : ∀ s, runA (stepA P C base isv bs ops n0) (List.range' (pre ++ [o]).length rest.length) s = runO P C base isv bs ops rest (n0 + (pre ++ [o]).countP (allocs isv)) s := fun s => runO_eq hpre
    simp only [List.length_cons, List.range'_succ, runA, runO]
    rw [stepA_stepO hi, ht]
    cases stepO P C base isv bs ops (n0 + pre.countP (allocs isv)) o s with
    | none => rfl
    | some s' =>
      have := ih s'
      simp only [List.length_append, List.length_cons, List.length_nil, Nat.zero_add, List.countP_append, List.countP_cons, List.countP_nil] at this
      simp only []
      rw [this]
      congr 1
      split <;> omega

def isvOf (cf : Cfg) (f : FuncId) (t : Tmp) : Bool := (cf.vars f).contains t

def regionT (P : Program) (cf : Cfg) (C : CallF) (base : Nat) (f : FuncId) (ops : List Oper) (s : S) : Option S :=
  match runO P C base (isvOf cf f) (baseAt (isvOf cf f) (baseOf (isvOf cf f) ops [])) ops ops s.2.length (s.1, s.2 ++ List.replicate (ops.countP (allocs (isvOf cf f))) .none) with
  | some (env, σ) => some (clearA (fun t => (cf.keep f).contains t) ops env, σ)
  | none => none

def codeOk (P : Program) (cf : Cfg) (f : FuncId) : Code → Bool
  | .region _ ops d => !d || regionOk P cf.pure cf.grow (isvOf cf f) (baseAt (isvOf cf f) (baseOf (isvOf cf f) ops.toList [])) ops
  | .seq a b => codeOk P cf f a && codeOk P cf f b
  | .cond _ a b => codeOk P cf f a && codeOk P cf f b
  | .block _ a => codeOk P cf f a
  | .loop a => codeOk P cf f a
  | _ => true

def loopB (rg : Nat → Array Oper → Bool → S → Option S) (mk : Code → Option Out → Env → Option Env) (lp : LoopF) (a : Code) : S → Option (Out × S) := roundA mk (execC rg mk lp a) a

theorem execC_loop {rg : Nat → Array Oper → Bool → S → Option S} {mk : Code → Option Out → Env → Option Env} {lp : LoopF} {a : Code} {s : S} : execC rg mk lp (.loop a) s = match lp (loopB rg mk lp a) s with
    | some (out, s') => match mk a (some out) s'.1 with
      | some e => some (out, e, s'.2)
      | none => none
    | none => none := by
  simp only [execC]; rfl

def rgT (P : Program) (cf : Cfg) (C : CallF) (base : Nat) (f : FuncId) (_ : Nat) (ops : Array Oper) (_ : Bool) (s : S) : Option S := regionT P cf C base f ops.toList s

theorem regionA_text {f : FuncId} {id : Nat} {ops : Array Oper} {d : Bool} {s : S} (h : codeOk P cf f (.region id ops d) = true) : regionA P cf C base f id ops d s = rgT P cf C base f id ops d s := by
  unfold codeOk at h
  have h' : (!d || regionOk P cf.pure cf.grow (fun t => (cf.vars f).contains t) (baseAt (fun t => (cf.vars f).contains t) (baseOf (fun t => (cf.vars f).contains t) ops.toList [])) ops) = true := h
  unfold regionA rgT regionT
  simp only
  rw [if_pos h']
  have e := runO_eq (P := P) (C := C) (base := base) (isv := isvOf cf f) (bs := baseAt (isvOf cf f) (baseOf (isvOf cf f) ops.toList [])) (ops := ops.toList) (n0 := s.2.length) (rest := ops.toList) (pre := []) (s := (s.1, s.2 ++ List.replicate (ops.toList.countP (allocs (isvOf cf f))) .none)) rfl
  simp only [List.length_nil, List.countP_nil, Nat.add_zero, Array.length_toList] at e
  rw [← e, ← List.range_eq_range']
  rfl

theorem execC_text {f : FuncId} {mk : Code → Option Out → Env → Option Env} {lp : LoopF} : ∀ {c : Code} {s : S}, codeOk P cf f c = true → execC (regionA P cf C base f) mk lp c s = execC (rgT P cf C base f) mk lp c s := by
  intro c
  induction c with
  | region id ops d => intro s h; simp only [execC]; rw [regionA_text h]
  | seq x y ihx ihy =>
    intro s h
    simp only [codeOk, Bool.and_eq_true] at h
    simp only [execC]
    rw [ihx h.1]
    split
    · exact ihy h.2
    · rfl
  | cond c x y ihx ihy =>
    intro s h
    simp only [codeOk, Bool.and_eq_true] at h
    simp only [execC]
    split
    · exact ihx h.1
    · exact ihy h.2
    · rfl
  | block id x ih =>
    intro s h
    simp only [codeOk] at h
    simp only [execC]
    rw [ih h]
  | loop x ih =>
    intro s h
    simp only [codeOk] at h
    rw [execC_loop, execC_loop]
    have e : loopB (regionA P cf C base f) mk lp x = loopB (rgT P cf C base f) mk lp x := by
      funext s
      unfold loopB roundA
      split
      · exact ih h
      · rfl
    rw [e]
  | _ => intro s h; rfl

/-- The frame at the function's entry. -/
def startE (n : Nat) (args : List AV) : Env := args.map .val ++ List.replicate (n - args.length) .und

def mkT (cf : Cfg) (f : FuncId) (c : Code) (o : Option Out) (e : Env) : Option Env := maskA (fun t => (cf.live f c o).contains t) 0 e

theorem maskA_idem {live : Tmp → Bool} : ∀ {env env' : Env} {i : Nat}, maskA live i env = some env' → maskA live i env' = some env'
  | [], env', i, h => by cases h; rfl
  | x :: env, env', i, h => by
    unfold maskA at h
    split at h
    · cases h
    · rename_i e2 h2
      have ih := maskA_idem h2
      split at h
      · rename_i hl
        split at h
        · cases h
        · rename_i hnp
          cases h
          unfold maskA
          rw [ih]
          simp only [hl, if_true]
      · rename_i hl
        cases h
        unfold maskA
        rw [ih]
        simp only
        rw [if_neg hl]

theorem mkT_idem {f : FuncId} {c : Code} {o : Option Out} {e e' : Env} (h : mkT cf f c o e = some e') : mkT cf f c o e' = some e' := maskA_idem h

/-- A loop at its head, the frame masked. -/
noncomputable def loopM (P : Program) (cf : Cfg) (f : FuncId) (base : Nat) (a : Code) (s : S) : Option (Out × S) :=
  match loopL (loopB (rgT P cf (callL P cf) base f) (mkT cf f) loopL a) s with
  | some (out, s') => match mkT cf f a (some out) s'.1 with
    | some e => some (out, e, s'.2)
    | none => none
  | none => none

/-- What comes behind a loop's body. -/
noncomputable def nextM (P : Program) (cf : Cfg) (f : FuncId) (base : Nat) (a : Code) : Option (Out × S) → Option (Out × S)
  | some (.normal, s') => match mkT cf f a none s'.1 with
    | some e => loopM P cf f base a (e, s'.2)
    | none => none
  | some (out, s') => match mkT cf f a (some out) s'.1 with
    | some e => some (out, e, s'.2)
    | none => none
  | none => none

theorem loopL_unfold {b : S → Option (Out × S)} {s : S} : loopL b s = match b s with
    | some (.normal, s') => loopL b s'
    | r => r := by
  cases hb : b s with
  | none =>
    cases hl : loopL b s with
    | none => rfl
    | some r =>
      obtain ⟨n, hn⟩ := loopL_iff.1 hl
      cases n with
      | zero => cases hn
      | succ n => unfold loopN at hn; rw [hb] at hn; cases hn
  | some r =>
    obtain ⟨out, s'⟩ := r
    cases out with
    | normal =>
      simp only
      cases hl : loopL b s' with
      | none =>
        cases hl2 : loopL b s with
        | none => rfl
        | some r =>
          obtain ⟨n, hn⟩ := loopL_iff.1 hl2
          cases n with
          | zero => cases hn
          | succ n =>
            unfold loopN at hn
            rw [hb] at hn
            have := loopL_iff.2 ⟨n, hn⟩
            rw [hl] at this; cases this
      | some r => exact loopL_next hb hl
    | exit i => exact loopL_exit hb
    | ret => exact loopL_ret hb

/-- The head of a loop looks only at what lives there. -/
theorem loopM_mask {f : FuncId} {a : Code} {env : Env} {σ : St} : loopM P cf f base a (env, σ) = match mkT cf f a none env with
    | some e => loopM P cf f base a (e, σ)
    | none => none := by
  cases hm : mkT cf f a none env with
  | none =>
    unfold loopM
    rw [loopL_unfold]
    unfold loopB roundA
    rw [hm]
  | some e =>
    have hb : loopB (rgT P cf (callL P cf) base f) (mkT cf f) loopL a (env, σ) = loopB (rgT P cf (callL P cf) base f) (mkT cf f) loopL a (e, σ) := by
      unfold loopB roundA
      rw [hm, mkT_idem hm]
    simp only
    unfold loopM
    rw [loopL_unfold (s := (env, σ)), hb, ← loopL_unfold]

/-- One round. -/
theorem loopM_step {f : FuncId} {a : Code} {env : Env} {σ : St} (hm : mkT cf f a none env = some env) :
    loopM P cf f base a (env, σ) = nextM P cf f base a (execC (rgT P cf (callL P cf) base f) (mkT cf f) loopL a (env, σ)) := by
  have hb : loopB (rgT P cf (callL P cf) base f) (mkT cf f) loopL a (env, σ) = execC (rgT P cf (callL P cf) base f) (mkT cf f) loopL a (env, σ) := by
    unfold loopB roundA
    rw [hm]
  conv => lhs; unfold loopM
  rw [loopL_unfold, hb]
  cases execC (rgT P cf (callL P cf) base f) (mkT cf f) loopL a (env, σ) with
  | none => rfl
  | some r =>
    obtain ⟨out, env', σ'⟩ := r
    cases out with
    | normal => exact (loopM_mask (P := P) (cf := cf) (f := f) (base := base) (a := a) (env := env') (σ := σ'))
    | exit i => rfl
    | ret => rfl

/-- The loop of a function's code whose first region bears this number. -/
def regOf : Code → Option Nat
  | .region id _ _ => some id
  | .seq a b => match regOf a with
    | some i => some i
    | none => regOf b
  | .cond _ a b => match regOf a with
    | some i => some i
    | none => regOf b
  | .block _ a => regOf a
  | .loop a => regOf a
  | _ => none

def findLoop (r : Nat) : Code → Option Code
  | .seq a b => match findLoop r a with
    | some c => some c
    | none => findLoop r b
  | .cond _ a b => match findLoop r a with
    | some c => some c
    | none => findLoop r b
  | .block _ a => findLoop r a
  | .loop a => if regOf a = some r then some a else findLoop r a
  | _ => none

def loopOf (fn : Func) (r : Nat) : Code := match fn.body with
  | some c => (findLoop r c).getD .skip
  | none => .skip

/-- A masked frame: these slots live. -/
def envOf (n : Nat) (l : List (Nat × AV)) : Env := (List.range n).map fun i => match l.lookup i with
  | some v => .val v
  | none => .top

/-- A function's body, its regions in the text's order, at the limit. -/
noncomputable def bodyT (P : Program) (cf : Cfg) (f : FuncId) (fn : Func) (c : Code) (args : List AV) (σ : St) (base : Nat) : Option (AV × St) :=
  match execC (rgT P cf (callL P cf) base f) (mkT cf f) loopL c (startE fn.ntmps args, σ) with
  | some (.normal, s) | some (.ret, s) => match resOf P s.1 s.2 fn.results.toList with
    | some vs => some (mkRes vs, s.2)
    | none => none
  | _ => none

theorem bodyT_eq {f : FuncId} {fn : Func} {c : Code} {args : List AV} {σ : St} (h : codeOk P cf f c = true) : bodyA P cf (callL P cf) loopL f fn c args σ base = bodyT P cf f fn c args σ base := by
  unfold bodyA bodyT
  rw [execC_text h]
  rfl

/-- A function that may leave objects behind. -/
theorem callL_body {f : FuncId} {fn : Func} {c : Code} {args : List AV} {σ : St} {r : AV × St} (hf : P.funcs[f]? = some fn) (hc : fn.body = some c) (hok : codeOk P cf f c = true) (hpr : cf.prim f = none) (hpu : cf.pure f = false)
    (h : bodyT P cf f fn c args σ (if cf.grow f then σ.length else base) = some r) : callL P cf f args σ base = some r := by
  refine callL_intro ?_
  unfold enterA
  rw [hpr, hf]
  simp only [hc]
  rw [if_neg (by rw [hpu]; simp), bodyT_eq hok]
  exact h

/-- A function that leaves none. -/
theorem callL_pure {f : FuncId} {fn : Func} {c : Code} {args : List AV} {σ σ' : St} {v v' : AV} (hf : P.funcs[f]? = some fn) (hc : fn.body = some c) (hok : codeOk P cf f c = true) (hpr : cf.prim f = none) (hpu : cf.pure f = true) (hne : args ≠ [])
    (h : bodyT P cf f fn c args σ σ.length = some (v, σ')) (hz : freeze σ.length σ' 6 v = some v') : callL P cf f args σ base = some (v', σ) := by
  refine callL_intro ?_
  unfold enterA
  rw [hpr, hf]
  simp only [hc]
  have he : args.isEmpty = false := by cases args with
    | nil => exact absurd rfl hne
    | cons _ _ => rfl
  rw [if_pos hpu, he]
  simp only [Bool.false_eq_true, if_false]
  rw [bodyT_eq hok, h]
  simp only [hz]

/-- A function without arguments that leaves none. -/
theorem callL_nullary {f : FuncId} {fn : Func} {c : Code} {σ σ' : St} {v v' : AV} (hf : P.funcs[f]? = some fn) (hc : fn.body = some c) (hok : codeOk P cf f c = true) (hpr : cf.prim f = none) (hpu : cf.pure f = true)
    (h : bodyT P cf f fn c [] [] 0 = some (v, σ')) (hz : freeze 0 σ' 6 v = some v') : callL P cf f [] σ base = some (v', σ) := by
  refine callL_intro ?_
  unfold enterA
  rw [hpr, hf]
  simp only [hc]
  rw [if_pos hpu]
  simp only [List.isEmpty_nil, if_true, List.length_nil]
  rw [bodyT_eq hok, h]
  simp only [hz]

end

/-! Slices, however they lie. -/

/-- 'a' is a slice of these elements, each of 'sz' cells. -/
structure Sl (σ : St) (sz : Nat) (a : AV) (xs : List AV) : Prop where
  el : elems σ sz a = some xs
  len : lenS a = some xs.length

theorem Sl.v {σ : St} {sz : Nat} {a : AV} {xs : List AV} (h : Sl σ sz a xs) : (Slot.val a).v = some a := by
  have := h.len
  cases a <;> first | rfl | cases this

theorem Sl.cells {σ : St} {sz : Nat} {a : AV} {xs : List AV} (h : Sl σ sz a xs) : a.cells = [a] := by
  have := h.len
  cases a <;> first | rfl | cases this

theorem Sl.list {σ : St} {sz : Nat} {f : Bool} (xs : List AV) : Sl σ sz (.list f sz xs) xs := ⟨by simp [elems], rfl⟩

theorem Sl.nil {σ : St} {sz : Nat} {f : Bool} (s : Nat) : Sl σ sz (.list f s []) [] := ⟨by simp [elems], rfl⟩

theorem Sl.row {σ : St} {sz id : Nat} {xs : List AV} (h : σ[id]? = some (.row sz xs)) (lim : Bool) : Sl σ sz (.row sz id xs.length 0 xs.length lim) xs := ⟨by simp [elems, h], rfl⟩

/-- No slice whose room ends with it. -/
def NL (a : AV) : Prop := ∀ sz id gen off len, a ≠ .row sz id gen off len true

theorem NL.list {f : Bool} {s : Nat} {xs : List AV} : NL (.list f s xs) := fun _ _ _ _ _ h => by cases h

/-- 's[lo:hi]'. -/
theorem Sl.slice {σ : St} {sz : Nat} {a : AV} {xs : List AV} (h : Sl σ sz a xs) (hn : NL a) {l k : Nat} (h1 : l ≤ k) (h2 : k ≤ xs.length) {lo hi : Option Int} (hlo : lo.getD 0 = l) (hhi : hi.getD xs.length = k) :
    ∃ v, sliceOf sz a lo hi none = some v ∧ Sl σ sz v ((xs.drop l).take (k - l)) ∧ NL v := by
  have hl := h.len
  have he := h.el
  cases a with
  | list f s ys =>
    simp only [lenS, Option.some.injEq] at hl
    simp only [elems] at he
    split at he
    · rename_i hs
      cases he
      simp only [sliceOf, hs, if_true, hhi, hlo]
      rw [if_pos ⟨by omega, by omega, by omega⟩]
      refine ⟨_, rfl, ⟨?_, ?_⟩, NL.list⟩
      · simp only [elems, Int.toNat_natCast]
        split
        · rfl
        · rename_i hno
          exfalso
          apply hno
          rw [Bool.or_eq_true] at hs
          rcases hs with h5 | h5
          · rw [h5]; rfl
          · have : xs = [] := by simpa using h5
            subst this
            simp
      · simp only [lenS, Int.toNat_natCast]
    · cases he
  | row s id gen off len lim =>
    simp only [lenS, Option.some.injEq] at hl
    subst hl
    have hlim : lim = false := by
      cases lim with
      | false => rfl
      | true => exact absurd rfl (hn _ _ _ _ _)
    subst hlim
    simp only [elems] at he
    split at he
    · rename_i s2 ys hob
      split at he
      · rename_i hc
        simp only [Bool.and_eq_true, beq_iff_eq] at hc
        obtain ⟨rfl, hgen⟩ := hc
        simp only [Option.some.injEq] at he
        simp only [sliceOf, beq_self_eq_true, if_true, hhi, hlo]
        rw [if_pos ⟨by omega, by omega, by omega⟩]
        simp only [Bool.false_and, Bool.false_eq_true, if_false, Int.toNat_natCast]
        refine ⟨_, rfl, ⟨?_, ?_⟩, fun _ _ _ _ _ e => by cases e⟩
        · simp only [elems, hob, beq_self_eq_true, Bool.true_and, hgen, if_true]
          rw [← he]
          simp only [List.drop_take, List.take_take, List.drop_drop, Option.some.injEq]
          congr 1
          omega
        · simp only [lenS, List.length_take, List.length_drop]
          congr 1
          omega
      · cases he
    · cases he
  | _ => cases hl

/-- It stands in a heap that goes on from this one. -/
theorem Sl.keep {σ σ' : St} {sz : Nat} {a : AV} {xs : List AV} {b : Nat} (h : Sl σ sz a xs) (hk : Keep b σ σ') (hb : ∀ id, (∃ sz gen off len lim, a = .row sz id gen off len lim) → id < b) : Sl σ' sz a xs := by
  refine ⟨?_, h.len⟩
  have := h.el
  cases a with
  | row s id gen off len lim =>
    simp only [elems] at this ⊢
    rw [hk.2 id (hb id ⟨_, _, _, _, _, rfl⟩)]
    exact this
  | _ => exact this

end Go.Can
