/- Laws by which 'simp' carries out a function's body whose tests are not known: a tree of 'if'. -/
import Derived.Test.YtgcfhcgnkohfkaaCanX
set_option linter.unusedSimpArgs false
set_option linter.unusedVariables false
namespace Go.Can
open Go

section
variable {P : Program} {C : CallF} {base nid : Nat} {isv : Tmp → Bool} {bs : Tmp → Option Tmp} {ops rest : List Oper} {o : Oper} {env : Env} {σ : St} {c : Prop} [Decidable c]

def runS (P : Program) (C : CallF) (base : Nat) (isv : Tmp → Bool) (bs : Tmp → Option Tmp) (ops rest : List Oper) (nid : Nat) : Option S → Option S
  | some s => runO P C base isv bs ops rest nid s
  | none => none
@[go_sem high] theorem z_runC : runO P C base isv bs ops (o :: rest) nid (env, σ) = runS P C base isv bs ops rest (if allocs isv o then nid + 1 else nid) (stepO P C base isv bs ops nid o (env, σ)) := by
  rw [x_runS]; unfold runS; rfl
@[go_sem] theorem z_runN : runS P C base isv bs ops rest nid none = none := rfl
@[go_sem] theorem z_runV {s : S} : runS P C base isv bs ops rest nid (some s) = runO P C base isv bs ops rest nid s := rfl
@[go_sem] theorem z_runI {x y : Option S} : runS P C base isv bs ops rest nid (if c then x else y) = if c then runS P C base isv bs ops rest nid x else runS P C base isv bs ops rest nid y := by split <;> rfl

/-- One operation whose guard is met. -/
def stepE (P : Program) (C : CallF) (base : Nat) (isv : Tmp → Bool) (bs : Tmp → Option Tmp) (nid : Nat) (o : Oper) (s : S) : Option S := match evalOp P C base isv bs nid s.1 s.2 o with
  | some (env, σ, sl) => some (putA env o.dst sl, σ)
  | none => none

/-- A guarded operation; the guard's slot is set to what it is known to be. -/
def guardS (P : Program) (C : CallF) (base : Nat) (isv : Tmp → Bool) (bs : Tmp → Option Tmp) (nid : Nat) (o : Oper) (env : Env) (σ : St) (d : Tmp) (want : Bool) : Option Slot → Option S
  | some (.val (.bool b)) => if b = true then (if want = true then stepE P C base isv bs nid o (env.set d (.val (.bool true)), σ) else some (putA (env.set d (.val (.bool true))) o.dst .und, σ))
      else (if want = true then some (putA (env.set d (.val (.bool false))) o.dst .und, σ) else stepE P C base isv bs nid o (env.set d (.val (.bool false)), σ))
  | some .und | some (.val (.int _ _)) => some (putA env o.dst .und, σ)
  | _ => none

theorem set_noop {α : Type} {l : List α} {d : Nat} {x : α} (h : l[d]? = some x) : l.set d x = l := by
  apply List.ext_getElem?
  intro i
  by_cases hi : d = i
  · subst hi
    rw [List.getElem?_set_self (List.getElem?_eq_some_iff.1 h).1, h]
  · rw [List.getElem?_set_ne hi]

def guardD (P : Program) (C : CallF) (base : Nat) (isv : Tmp → Bool) (bs : Tmp → Option Tmp) (nid : Nat) (o : Oper) (env : Env) (σ : St) (want : Bool) : Option Tmp → Option S
  | none => some (putA env o.dst .und, σ)
  | some d => guardS P C base isv bs nid o env σ d want env[d]?
def guardK (P : Program) (C : CallF) (base : Nat) (isv : Tmp → Bool) (bs : Tmp → Option Tmp) (ops : List Oper) (nid : Nat) (o : Oper) (env : Env) (σ : St) : Option (Nat × Bool) → Option S
  | none => stepE P C base isv bs nid o (env, σ)
  | some (j, want) => guardD P C base isv bs nid o env σ want ((ops[j]?).bind (·.dst))
theorem z_step : stepO P C base isv bs ops nid o (env, σ) = if okDst env o.dst = true then guardK P C base isv bs ops nid o env σ o.guard else none := by
  unfold stepO guardK wantedA
  congr 1
  cases o.guard with
  | none => rfl
  | some g =>
    obtain ⟨j, want⟩ := g
    simp only
    unfold guardD
    cases (ops[j]?).bind (·.dst) with
    | none => rfl
    | some d =>
      simp only
      unfold guardS
      cases hd : env[d]? with
      | none => rfl
      | some sl =>
        cases sl with
        | val v =>
          cases v with
          | bool q =>
            cases q <;> cases want <;> simp [set_noop hd, stepE] <;> rfl
          | _ => rfl
        | _ => rfl
@[go_sem] theorem z_guardN : guardK P C base isv bs ops nid o env σ none = stepE P C base isv bs nid o (env, σ) := rfl
@[go_sem] theorem z_guardV {j : Nat} {want : Bool} : guardK P C base isv bs ops nid o env σ (some (j, want)) = guardD P C base isv bs nid o env σ want ((ops[j]?).bind (·.dst)) := rfl
@[go_sem] theorem z_guardD {d : Tmp} {want : Bool} : guardD P C base isv bs nid o env σ want (some d) = guardS P C base isv bs nid o env σ d want env[d]? := rfl
@[go_sem] theorem z_guardB {d : Tmp} {want b : Bool} : guardS P C base isv bs nid o env σ d want (some (.val (.bool b))) = if b = true then (if want = true then stepE P C base isv bs nid o (env.set d (.val (.bool true)), σ) else some (putA (env.set d (.val (.bool true))) o.dst .und, σ))
      else (if want = true then some (putA (env.set d (.val (.bool false))) o.dst .und, σ) else stepE P C base isv bs nid o (env.set d (.val (.bool false)), σ)) := rfl
@[go_sem] theorem z_guardU {d : Tmp} {want : Bool} : guardS P C base isv bs nid o env σ d want (some .und) = some (putA env o.dst .und, σ) := rfl

/-- An operation without effect on the heap, of a known kind. -/
theorem z_stepE : stepE P C base isv bs nid o (env, σ) = match evalOp P C base isv bs nid env σ o with
  | some (env, σ, sl) => some (putA env o.dst sl, σ)
  | none => none := rfl

def idxK (env : Env) (σ : St) (d : Option Tmp) (s : AV) (sz : Nat) (n : Int) : Option Nat → Option S
  | some len => if 0 ≤ n ∧ n < len then some (putA env d (.val (.elm s sz n.toNat 0)), σ) else none
  | none => none
@[go_sem] theorem z_idxS {d : Option Tmp} {s : AV} {sz : Nat} {n : Int} {len : Nat} : idxK env σ d s sz n (some len) = if 0 ≤ n ∧ n < len then some (putA env d (.val (.elm s sz n.toNat 0)), σ) else none := rfl
def idxL (P : Program) (env : Env) (σ : St) (d : Option Tmp) : Option (TypeId × Nat × Nat) → Option AV → Option AV → Option S
  | some (_, sz, _), some s, some (.int _ n) => idxK env σ d s sz n (lenS s)
  | _, _, _ => none
@[go_sem] theorem z_idxL {d : Option Tmp} {e : TypeId} {sz b : Nat} {s : AV} {k : IntKind} {n : Int} : idxL P env σ d (some (e, sz, b)) (some s) (some (.int k n)) = idxK env σ d s sz n (lenS s) := rfl
@[go_sem high] theorem z_index {d : Option Tmp} {t : TypeId} {x i : Operand} {ty : TypeId} {ps : String} {a : Array Edge} {g : Option (Nat × Bool)} :
    stepE P C base isv bs nid ⟨d, .indexAddr t x i, ty, ps, a, g⟩ (env, σ) = idxL P env σ d (elemT P t) (lookV env x) (lookV env i) := by
  unfold stepE evalOp evalV idxL
  simp only
  cases h1 : elemT P t with
  | none => rfl
  | some e =>
    obtain ⟨e1, e2, e3⟩ := e
    cases h2 : lookV env x with
    | none => rfl
    | some s =>
      cases h3 : lookV env i with
      | none => rfl
      | some v =>
        cases v with
        | int k n =>
          simp only
          unfold idxK
          cases lenS s with
          | none => rfl
          | some len =>
            simp only
            by_cases hc : 0 ≤ n ∧ n < (len : Int)
            · rw [if_pos hc, if_pos hc]
            · rw [if_neg hc, if_neg hc]
        | _ => rfl

def loadK (env : Env) (σ : St) (d : Option Tmp) : Option AV → Option S
  | some v => some (putA env d (.val v), σ)
  | none => none
@[go_sem] theorem z_loadN {d : Option Tmp} : loadK env σ d none = none := rfl
@[go_sem] theorem z_loadV {d : Option Tmp} {v : AV} : loadK env σ d (some v) = some (putA env d (.val v), σ) := rfl
@[go_sem] theorem z_loadI {d : Option Tmp} {x y : Option AV} : loadK env σ d (if c then x else y) = if c then loadK env σ d x else loadK env σ d y := by split <;> rfl
@[go_sem high] theorem z_load {d : Option Tmp} {t : TypeId} {x : Operand} {ty : TypeId} {ps : String} {a : Array Edge} {g : Option (Nat × Bool)} :
    stepE P C base isv bs nid ⟨d, .load t x, ty, ps, a, g⟩ (env, σ) = if (adrOk bs x (look env x) && ldOk isv d (look env x)) = true then loadK env σ d (loadAt P env σ t (look env x)) else none := by
  unfold stepE evalOp evalV
  simp only
  by_cases hc : (adrOk bs x (look env x) && ldOk isv d (look env x)) = true
  · rw [if_pos hc, if_pos hc]
    cases loadAt P env σ t (look env x) <;> rfl
  · rw [if_neg hc, if_neg hc]
def elmK (P : Program) (t : TypeId) (off : Nat) : Option AV → Option AV
  | some x => partA P t x.cells off
  | none => none
@[go_sem] theorem z_elmN {t off} : elmK P t off none = none := rfl
@[go_sem] theorem z_elmV {t off} {v : AV} : elmK P t off (some v) = partA P t v.cells off := rfl
@[go_sem] theorem z_elmI {t off} {x y : Option AV} : elmK P t off (if c then x else y) = if c then elmK P t off x else elmK P t off y := by split <;> rfl
def elmL (P : Program) (t : TypeId) (off i : Nat) : Option (List AV) → Option AV
  | some xs => elmK P t off xs[i]?
  | none => none
@[go_sem] theorem z_elmL {t off i} {xs : List AV} : elmL P t off i (some xs) = elmK P t off xs[i]? := rfl
@[go_sem high] theorem z_loadE {t : TypeId} {s : AV} {sz i off : Nat} : loadAt P env σ t (.val (.elm s sz i off)) = elmL P t off i (elems σ sz s) := by
  unfold loadAt elmL elmK
  simp only
  cases elems σ sz s with
  | none => rfl
  | some xs => rfl
/-- An element, if it is there. -/
theorem get_at {β : Type} {l : List β} {f : β → AV} {d : β} {i : Nat} : (l.map f)[i]? = if i < l.length then some (f (l.getD i d)) else none := by
  split
  · rename_i h; simp [h]
  · rename_i h; simp; omega
end

section
variable {P : Program} {cf : Cfg} {C : CallF} {base : Nat} {f : FuncId} {ops : List Oper} {env : Env} {σ : St} {c : Prop} [Decidable c]

def clrK (cf : Cfg) (f : FuncId) (ops : List Oper) : Option S → Option S
  | some (env, σ) => some (clearA (fun t => (cf.keep f).contains t) ops env, σ)
  | none => none
theorem z_regionT {s : S} : regionT P cf C base f ops s = clrK cf f ops (runO P C base (isvOf cf f) (baseAt (isvOf cf f) (baseOf (isvOf cf f) ops [])) ops ops s.2.length (s.1, s.2 ++ List.replicate (ops.countP (allocs (isvOf cf f))) .none)) := rfl
@[go_sem] theorem z_clrN : clrK cf f ops none = none := rfl
@[go_sem] theorem z_clrV : clrK cf f ops (some (env, σ)) = some (clearA (fun t => (cf.keep f).contains t) ops env, σ) := rfl
@[go_sem] theorem z_clrI {x y : Option S} : clrK cf f ops (if c then x else y) = if c then clrK cf f ops x else clrK cf f ops y := by split <;> rfl

def regK : Option S → Option (Out × S)
  | some s => some (.normal, s)
  | none => none
@[go_sem] theorem z_regN : regK none = none := rfl
@[go_sem] theorem z_regV {s : S} : regK (some s) = some (.normal, s) := rfl
@[go_sem] theorem z_regI {x y : Option S} : regK (if c then x else y) = if c then regK x else regK y := by split <;> rfl
end

section
variable {rg : Nat → Array Oper → Bool → S → Option S} {mk : Code → Option Out → Env → Option Env} {lp : LoopF} {env : Env} {σ : St} {c : Prop} [Decidable c] {a b : Code}

@[go_sem high] theorem z_region {i ops d} : execC rg mk lp (.region i ops d) (env, σ) = regK (rg i ops d (env, σ)) := by
  rw [x_region]; unfold regK; rfl

def seqK (rg : Nat → Array Oper → Bool → S → Option S) (mk : Code → Option Out → Env → Option Env) (lp : LoopF) (b : Code) : Option (Out × S) → Option (Out × S)
  | some (.normal, s') => execC rg mk lp b s'
  | r => r
@[go_sem high] theorem z_seq : execC rg mk lp (.seq a b) (env, σ) = seqK rg mk lp b (execC rg mk lp a (env, σ)) := by
  rw [x_seq]
  cases execC rg mk lp a (env, σ) with
  | none => rfl
  | some r =>
    obtain ⟨o, s⟩ := r
    cases o <;> rfl
@[go_sem] theorem z_seqN : seqK rg mk lp b none = none := rfl
@[go_sem] theorem z_seqV {s : S} : seqK rg mk lp b (some (.normal, s)) = execC rg mk lp b s := rfl
@[go_sem] theorem z_seqE {s : S} {i : Nat} : seqK rg mk lp b (some (.exit i, s)) = some (.exit i, s) := rfl
@[go_sem] theorem z_seqR {s : S} : seqK rg mk lp b (some (.ret, s)) = some (.ret, s) := rfl
@[go_sem] theorem z_seqI {x y : Option (Out × S)} : seqK rg mk lp b (if c then x else y) = if c then seqK rg mk lp b x else seqK rg mk lp b y := by split <;> rfl

def condK (rg : Nat → Array Oper → Bool → S → Option S) (mk : Code → Option Out → Env → Option Env) (lp : LoopF) (a b : Code) (env : Env) (σ : St) (d : Tmp) : Option AV → Option (Out × S)
  | some (.bool t) => if t = true then execC rg mk lp a (env.set d (.val (.bool true)), σ) else execC rg mk lp b (env.set d (.val (.bool false)), σ)
  | _ => none
@[go_sem high] theorem z_cond {d : Tmp} : execC rg mk lp (.cond (.tmp d) a b) (env, σ) = condK rg mk lp a b env σ d (lookV env (.tmp d)) := by
  rw [x_cond]
  cases h : lookV env (.tmp d) with
  | none => rfl
  | some v =>
    cases v with
    | bool t =>
      have hd : env[d]? = some (.val (.bool t)) := by
        unfold lookV look at h
        simp only at h
        cases he : env[d]? with
        | none => rw [he] at h; cases h
        | some sl =>
          rw [he] at h
          cases sl with
          | val v =>
            cases v <;> first | (cases h; rfl) | cases h
          | _ => cases h
      cases t
      · simp only [condK, set_noop hd, Bool.false_eq_true, if_false]
      · simp only [condK, set_noop hd, if_true]
    | _ => rfl
@[go_sem] theorem z_condS {d : Tmp} {t : Bool} : condK rg mk lp a b env σ d (some (.bool t)) = if t = true then execC rg mk lp a (env.set d (.val (.bool true)), σ) else execC rg mk lp b (env.set d (.val (.bool false)), σ) := rfl

def blkK (i : Nat) : Option (Out × S) → Option (Out × S)
  | some (.exit j, s') => if j = i then some (.normal, s') else some (.exit j, s')
  | r => r
@[go_sem high] theorem z_block {i} : execC rg mk lp (.block i a) (env, σ) = blkK i (execC rg mk lp a (env, σ)) := by
  rw [x_block]
  cases execC rg mk lp a (env, σ) with
  | none => rfl
  | some r =>
    obtain ⟨o, s⟩ := r
    cases o <;> rfl
@[go_sem] theorem z_blkN {i} : blkK i none = none := rfl
@[go_sem] theorem z_blkV {i} {s : S} : blkK i (some (.normal, s)) = some (.normal, s) := rfl
@[go_sem] theorem z_blkE {i j} {s : S} : blkK i (some (.exit j, s)) = if j = i then some (.normal, s) else some (.exit j, s) := rfl
@[go_sem] theorem z_blkR {i} {s : S} : blkK i (some (.ret, s)) = some (.ret, s) := rfl
@[go_sem] theorem z_blkI {i} {x y : Option (Out × S)} : blkK i (if c then x else y) = if c then blkK i x else blkK i y := by split <;> rfl
end

section
variable {P : Program} {cf : Cfg} {base : Nat} {f : FuncId} {a : Code} {c : Prop} [Decidable c]
@[go_sem] theorem z_nextI {x y : Option (Out × S)} : nextM P cf f base a (if c then x else y) = if c then nextM P cf f base a x else nextM P cf f base a y := by split <;> rfl
@[go_sem] theorem z_nextNone : nextM P cf f base a none = none := rfl

def finK (P : Program) (rs : List ResultVar) : Option (Out × S) → Option (AV × St)
  | some (.normal, s) | some (.ret, s) => match resOf P s.1 s.2 rs with
    | some vs => some (mkRes vs, s.2)
    | none => none
  | _ => none
theorem z_body {fn : Func} {code : Code} {args : List AV} {σ : St} : bodyT P cf f fn code args σ base = finK P fn.results.toList (execC (rgT P cf (callL P cf) base f) (mkT cf f) loopL code (startE fn.ntmps args, σ)) := by
  unfold bodyT finK
  rfl
@[go_sem] theorem z_finN {rs : List ResultVar} : finK P rs none = none := rfl
@[go_sem] theorem z_finV {rs : List ResultVar} {s : S} : finK P rs (some (.normal, s)) = match resOf P s.1 s.2 rs with
    | some vs => some (mkRes vs, s.2)
    | none => none := rfl
@[go_sem] theorem z_finR {rs : List ResultVar} {s : S} : finK P rs (some (.ret, s)) = match resOf P s.1 s.2 rs with
    | some vs => some (mkRes vs, s.2)
    | none => none := rfl
@[go_sem] theorem z_finE {rs : List ResultVar} {s : S} {i : Nat} : finK P rs (some (.exit i, s)) = none := rfl
@[go_sem] theorem z_finI {rs : List ResultVar} {x y : Option (Out × S)} : finK P rs (if c then x else y) = if c then finK P rs x else finK P rs y := by split <;> rfl
end

end Go.Can
