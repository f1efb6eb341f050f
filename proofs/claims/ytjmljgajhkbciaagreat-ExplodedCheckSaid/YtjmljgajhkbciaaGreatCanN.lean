/- The operations: calls, and all of them together. The evaluator itself: what an operation reads and writes; when two of them may be exchanged. The evaluator itself: two operations that may be exchanged. The evaluator itself: two exchangeable operations may be carried out in either order. A region whose order is drawn: every order that the edges leave open comes to what the text's order comes to. -/
import Derived.Test.YtjmljgajhkbciaaGreatCanI
set_option linter.unusedSimpArgs false
set_option linter.unusedVariables false
namespace Go.Can
open Go Go.RowKit

def ArgsR (M : Mem) (θ : Th) (args : List AV) (vs : Array Value) : Prop := vs.size = args.length ∧ ∀ i v, args[i]? = some v → RepA M θ v (vs.getD i undef)

/-- What is said of a call: it returns; what is related before is related behind. -/
def CallR (P : Program) (f : FuncId) (args : List AV) (σ : St) (r : AV) (σ' : St) : Prop :=
  (∀ w vs, (callFunc f vs).run P w = .ok (.enter f vs) w) ∧
  ∀ w M θ vs, StR w M θ σ → ArgsR M θ args vs →
    Calls P f vs w fun e w' => ∃ v M' θ', e = .returned v ∧ Ext0 w M θ σ w' M' θ' σ' ∧ StR w' M' θ' σ' ∧ Rep M' θ' r v

/-- The objects below 'base' are what they were; none has gone. -/
def Keep (base : Nat) (σ σ' : St) : Prop := σ.length ≤ σ'.length ∧ ∀ id, id < base → σ'[id]? = σ[id]?

structure CallOk (P : Program) (C : CallF) : Prop where
  sim : ∀ f args σ base r σ', base ≤ σ.length → C f args σ base = some (r, σ') → CallR P f args σ r σ'
  keep : ∀ f args σ base r σ', base ≤ σ.length → C f args σ base = some (r, σ') → Keep base σ σ'

section
variable {P : Program} {w : World} {M : Mem} {θ : Th} {σ : St} {π : Nat → Option Nat} {env : Env} {o : Oper} {a : Act}

theorem ArgsR.append {xs ys : List AV} {us vs : Array Value} (h : ArgsR M θ xs us) (k : ArgsR M θ ys vs) : ArgsR M θ (xs ++ ys) (us ++ vs) := by
  refine ⟨by simp [h.1, k.1], fun i v hi => ?_⟩
  by_cases c : i < xs.length
  · rw [List.getElem?_append_left c] at hi
    have : (us ++ vs).getD i undef = us.getD i undef := by
      simp only [Array.getD_eq_getD_getElem?]
      rw [Array.getElem?_append_left (by rw [h.1]; exact c)]
    rw [this]; exact h.2 i v hi
  · rw [List.getElem?_append_right (by omega)] at hi
    have : (us ++ vs).getD i undef = vs.getD (i - xs.length) undef := by
      simp only [Array.getD_eq_getD_getElem?]
      rw [Array.getElem?_append_right (by rw [h.1]; omega), h.1]
    rw [this]; exact k.2 _ v hi

theorem args_eval {xs : Array Operand} {vs : List AV} (hf : FrR w M θ σ π env a.tmps) (h : lookVs env xs.toList = some vs) : ArgsR M θ vs (xs.map a.eval) := by
  obtain ⟨e1, e2⟩ := lookVs_sound hf h
  refine ⟨by simp [e1], fun i c hc => ?_⟩
  have hi : i < xs.size := by have := (List.getElem?_eq_some_iff.1 hc).1; rw [e1] at this; simpa using this
  have hx : xs.toList[i]? = some xs[i] := by simp [hi]
  have : (xs.map a.eval).getD i undef = a.eval xs[i] := by simp [Array.getD_eq_getD_getElem?, hi]
  rw [this]
  exact e2 i c _ hc hx

theorem op_call {c : Call} {f : Operand} {g : FuncId} {fi ca args : List AV} {r : AV} {σ' : St} (hs : StR w M θ σ) (hf : FrR w M θ σ π env a.tmps) (hd : okDst env o.dst = true) (ho : o.op = .call c) (hc : c.callee = .value f)
    (hfv : lookV env f = some (.fn g fi ca)) (hx : lookVs env c.args.toList = some args) (hr : CallR P g (fi ++ args ++ ca) σ r σ') : OpS P w M θ σ π o a env σ' (.val r) := by
  obtain ⟨fu, cu, e1, e2, e3, e4, e5⟩ := (lookV_sound hf hfv).rep.fn
  have ha := args_eval hf hx
  have hall : ArgsR M θ (fi ++ args ++ ca) (fu ++ c.args.map a.eval ++ cu) := (ArgsR.append ⟨e2, fun i v h => (e4 i v h).repA⟩ ha).append ⟨e3, fun i v h => (e5 i v h).repA⟩
  intro K Q hK
  have hrun : (execOp a.eval o).run P w = .ok (.enter g (fu ++ c.args.map a.eval ++ cu)) w := by
    simp only [execOp, ho, resolve, hc, e1, Deferred.ofValue, Sem.run_bind, Sem.run_pure, Result.andThen_ok, invoke]
    exact hr.1 w _
  unfold Oper.wp
  rw [hrun]
  refine (hr.2 w M θ _ hs hall).mono ?_
  rintro e w' ⟨v, M', θ', rfl, h1, h2, h3⟩
  exact hK v w' M' θ' π (h1.lift π) h2 ((hf.ext h1).putV o.dst hd h3)

set_option maxHeartbeats 1000000 in
theorem evalV_sound {C : CallF} {base nid : Nat} {isv : Tmp → Bool} {bs : Tmp → Option Tmp} {σ' : St} {sl : Slot} (hC : CallOk P C) (hb : base ≤ σ.length) (hs : StR w M θ σ) (hf : FrR w M θ σ π env a.tmps) (hd : okDst env o.dst = true)
    (h : evalV P C base isv bs nid env σ o = some (σ', sl)) : OpS P w M θ σ π o a env σ' sl := by
  unfold evalV at h
  split at h
  · rename_i x ho
    split at h
    · cases h
    · cases h; exact op_move hs hf hd (.inl ho)
  · rename_i x ho
    split at h
    · cases h
    · cases h; exact op_move hs hf hd (.inr ho)
  · rename_i c x y ho
    split at h
    · rename_i t hc
      split at h
      · rename_i v hv; cases h; exact op_pick hs hf hd ho hc hv
      · cases h
    · cases h
  · rename_i e ho
    split at h
    · rename_i z hz
      split at h
      · rename_i hv
        cases h
        cases hdd : o.dst with
        | none => rw [hdd] at hv; simp [isv?] at hv
        | some d => exact op_alloc_var hs hf hd hdd ho hz
      · split at h
        · rename_i hn
          simp only [Bool.and_eq_true] at hn
          cases h; exact op_alloc_heap hs hf hd ho hz hn.1
        · cases h
    · cases h
  · rename_i e x ho
    split at h
    · rename_i z hz
      split at h
      · rename_i hv
        cases h
        cases hdd : o.dst with
        | none => rw [hdd] at hv; simp [isv?] at hv
        | some d => exact op_box_var hs hf hd hdd ho hz
      · split at h
        · rename_i hn
          simp only [Bool.and_eq_true] at hn
          cases h; exact op_box_heap hs hf hd ho hz hn.1
        · cases h
    · cases h
  · rename_i t ps ho
    split at h
    · rename_i vs hvs
      split at h
      · rename_i v hv; cases h; exact op_build hs hf hd ho hvs hv
      · cases h
    · cases h
  · rename_i t n ps ho
    split at h
    · rename_i e sz bytes vs ht hvs
      split at h
      · rename_i hc
        simp only [Bool.and_eq_true, beq_iff_eq, decide_eq_true_eq] at hc
        split at h
        · rename_i xs hxs; cases h; exact op_buildSlice hs hf hd ho ht hvs hc.1.1.1 hc.1.1.2 hc.1.2 hc.2 hxs
        · cases h
      · cases h
    · cases h
  · rename_i t x ho
    split at h
    · split at h
      · rename_i v hv; cases h; exact op_load hs hf hd ho hv
      · cases h
    · cases h
  · rename_i x ho
    split at h
    · rename_i s off hx; cases h; exact op_nilCheck_plc hs hf hd ho hx
    · rename_i id off hx; cases h; exact op_nilCheck_val hs hf hd ho hx (.inl ⟨_, _, rfl⟩)
    · rename_i s sz i off hx; cases h; exact op_nilCheck_val hs hf hd ho hx (.inr (.inl ⟨_, _, _, _, rfl⟩))
    · rename_i f fi c hx; cases h; exact op_nilCheck_val hs hf hd ho hx (.inr (.inr ⟨_, _, _, rfl⟩))
    · cases h
  · rename_i op t x y t' ho
    split at h
    · rename_i u v hu hv
      split at h
      · rename_i r hr; cases h; exact op_binOp hs hf hd ho hu hv hr
      · split at h
        · rename_i hn; cases h; exact op_nilEq hs hf hd ho hu hn
        · cases h
    · cases h
  · rename_i op t x ho
    split at h
    · rename_i u hu
      split at h
      · rename_i r hr; cases h; exact op_unOp hs hf hd ho hu hr
      · cases h
    · cases h
  · rename_i t d x ho
    split at h
    · rename_i q k k' n ht hu hx; cases h; exact op_convert hs hf hd ho hu ⟨_, ht⟩ hx
    · cases h
  · rename_i f fi ca ho
    split at h
    · rename_i vs us h1 h2
      split at h
      · rename_i hc
        simp only [Bool.and_eq_true] at hc
        cases h; exact op_makeFunc hs hf hd ho h1 h2 hc.1 hc.2
      · cases h
    · cases h
  · rename_i t ho
    split at h
    · rename_i x ht
      split at h
      · rename_i hn
        simp only [Bool.and_eq_true] at hn
        cases h; exact op_makeMap hs hf hd ho ht (.inl rfl) hn.1
      · cases h
    · cases h
  · rename_i t r ho
    split at h
    · rename_i x k n ht hr
      split at h
      · rename_i hn
        simp only [Bool.and_eq_true] at hn
        cases h; exact op_makeMap hs hf hd ho ht (.inr ⟨_, _, _, rfl, hr⟩) hn.1
      · cases h
    · cases h
  · rename_i t l c ho
    split at h
    · rename_i e sz bytes n m ht hl hc
      split at h
      · rename_i z hz
        split at h
        · rename_i hcond
          obtain ⟨h0, h1, h2, h3, h4, h5, h6, _⟩ := hcond
          cases h; exact op_makeSlice hs hf hd ho ht hl hc hz h0 h1 h2 h3 h4 h5 h6
        · cases h
      · cases h
    · cases h
  · rename_i t x lo hi mx ho
    split at h
    · rename_i e sz bytes s l h' m ht hx hl hh hm
      split at h
      · rename_i v hv; cases h; exact op_slice hs hf hd ho ht hx hl hh hm hv
      · cases h
    · cases h
  · rename_i t x f ho
    split at h
    · rename_i o1 s ft t0 off ht hx; cases h; exact op_fieldAddr_plc hs hf hd ho ht hx
    · rename_i o1 s ft id off ht hx; cases h; exact op_fieldAddr_ptr hs hf hd ho ht hx
    · rename_i o1 s ft sv sz i off ht hx; cases h; exact op_fieldAddr_elm hs hf hd ho ht hx
    · cases h
  · rename_i t x f ho
    split at h
    · rename_i o1 s ft cs ht hx
      split at h
      · rename_i v hv; cases h; exact op_field hs hf hd ho ht hx hv
      · cases h
    · cases h
  · rename_i t x i ho
    split at h
    · rename_i e sz bytes s k n ht hx hi
      split at h
      · rename_i len hlen
        split at h
        · rename_i hc
          cases h
          refine op_indexAddr hs hf hd ho ht hx hi ?_ hc.1 hc.2
          unfold lenS at hlen
          split at hlen
          · cases hlen; exact .inl ⟨_, _, _, rfl, rfl⟩
          · cases hlen; exact .inr ⟨_, _, _, _, _, rfl⟩
          · cases hlen
        · cases h
      · cases h
    · cases h
  · rename_i t x k ok ho
    split at h
    · rename_i m kv hx hk
      split at h
      · rename_i r hr
        split at h
        · rename_i kt e ht
          split at h
          · rename_i v hv
            have := op_lookup (ok := ok) hs hf hd ho hx hk hr ht hv
            cases ok <;> (simp at h; obtain ⟨rfl, rfl⟩ := h; simpa using this)
          · cases h
        · cases h
      · cases h
    · cases h
  · rename_i t m k x ho
    split at h
    · rename_i mv kv v h1 h2 h3
      split at h
      · rename_i s1 hp; cases h; exact op_mapUpdate hs hf hd ho h1 h2 h3 hp
      · cases h
    · cases h
  · rename_i x i ho
    split at h
    · rename_i vs hx
      split at h
      · rename_i v hv; cases h; exact op_extract hs hf hd ho hx hv
      · cases h
    · cases h
  · rename_i c ho
    split at h
    · rename_i args hargs
      split at h
      · rename_i b hc
        split at h
        · rename_i r s1 hr
          cases h
          unfold evalBuiltin at hr
          split at hr
          · rename_i t t' s x ht
            exact op_append hs hf hd ho hc ht hargs (by unfold evalBuiltin; exact hr)
          · rename_i t x ht
            exact op_len (base := base) hs hf hd ho hc ht hargs (by unfold evalBuiltin; exact hr)
          · rename_i t ts x k ht
            exact op_delete hs hf hd ho hc ht hargs (by unfold evalBuiltin; exact hr)
          · cases hr
        · cases h
      · rename_i f hc
        split at h
        · rename_i g fi ca hfv
          split at h
          · rename_i r s1 hr
            cases h
            exact op_call hs hf hd ho hc hfv hargs (hC.sim _ _ _ _ _ _ hb hr)
          · cases h
        · cases h
      · cases h
    · cases h
  · cases h

theorem evalS_sound {base : Nat} {bs : Tmp → Option Tmp} {env' : Env} {σ' : St} {t : TypeId} {x y : Operand} (hs : StR w M θ σ) (hf : FrR w M θ σ π env a.tmps) (hd : okDst env o.dst = true) (ho : o.op = .store t x y)
    (hst : evalS P base bs env σ t x y = some (env', σ')) : OpS P w M θ σ π o a env' σ' .und := by
  unfold evalS at hst
  split at hst
  · split at hst
    · rename_i v hv
      unfold storeAt at hst
      split at hst
      · rename_i hsz
        have hsz' : szOf P t = some v.cells.length := by simpa using hsz
        split at hst
        · rename_i s off hx
          split at hst
          · rename_i cs hcs
            split at hst
            · rename_i cs' hsp; cases hst; exact op_store_plc hs hf hd ho hx hv hsz' hcs hsp
            · cases hst
          · cases hst
        · rename_i id off hx
          split at hst
          · split at hst
            · rename_i cs hcs
              split at hst
              · rename_i cs' hsp; cases hst; exact op_store_ptr hs hf hd ho hx hv hsz' hcs hsp
              · cases hst
            · cases hst
          · cases hst
        · rename_i s1 id gen ro len lim sz i off hx
          split at hst
          · split at hst
            · rename_i s2 xs hob
              split at hst
              · rename_i hc
                simp only [Bool.and_eq_true, beq_iff_eq, decide_eq_true_eq] at hc
                obtain ⟨⟨rfl, hgen⟩, hi⟩ := hc
                split at hst
                · rename_i z hz
                  split at hst
                  · rename_i z' hz'; cases hst; exact op_store_elm hs hf hd ho hx hv hsz' hob hgen hi hz hz'
                  · cases hst
                · cases hst
              · cases hst
            · cases hst
          · cases hst
        · cases hst
      · cases hst
    · cases hst
  · cases hst

theorem evalOp_sound {C : CallF} {base nid : Nat} {isv : Tmp → Bool} {bs : Tmp → Option Tmp} {env' : Env} {σ' : St} {sl : Slot} (hC : CallOk P C) (hb : base ≤ σ.length) (hs : StR w M θ σ) (hf : FrR w M θ σ π env a.tmps) (hd : okDst env o.dst = true)
    (h : evalOp P C base isv bs nid env σ o = some (env', σ', sl)) : OpS P w M θ σ π o a env' σ' sl := by
  unfold evalOp at h
  split at h
  · rename_i t x y ho
    split at h
    · rename_i e1 s1 hst
      cases h; exact evalS_sound hs hf hd ho hst
    · cases h
  · split at h
    · rename_i s1 sl1 hv
      cases h; exact evalV_sound hC hb hs hf hd hv
    · cases h

end
end Go.Can

namespace Go.Can
open Go Go.RowKit
section
variable {P : Program} {C : CallF} {base nid : Nat} {isv : Tmp → Bool} {bs : Tmp → Option Tmp} {env env' : Env} {σ σ' : St} {o : Oper} {sl : Slot}

theorem Keep.refl (b : Nat) (σ : St) : Keep b σ σ := ⟨Nat.le_refl _, fun _ _ => rfl⟩
theorem Keep.trans {b : Nat} {σ1 σ2 σ3 : St} (h : Keep b σ1 σ2) (k : Keep b σ2 σ3) : Keep b σ1 σ3 := ⟨Nat.le_trans h.1 k.1, fun i hi => (k.2 i hi).trans (h.2 i hi)⟩
theorem Keep.set {b id : Nat} (σ : St) (x : Ob) (h : b ≤ id) : Keep b σ (σ.set id x) := ⟨by simp, fun i hi => by rw [List.getElem?_set_ne (by omega)]⟩
theorem Keep.app {b : Nat} (σ : St) (xs : List Ob) (h : b ≤ σ.length) : Keep b σ (σ ++ xs) := ⟨by simp, fun i hi => by rw [List.getElem?_append_left (by omega)]⟩

theorem appendTo_keep {sz bytes : Nat} {s r : AV} {ys : List AV} (hb : base ≤ σ.length) (h : appendTo base σ sz bytes s ys = some (r, σ')) : Keep base σ σ' := by
  unfold appendTo at h
  (repeat' split at h) <;> first
    | (cases h; done)
    | (cases h; exact Keep.refl _ _)
    | (cases h; exact Keep.app _ _ hb)
    | (cases h; exact Keep.set _ _ (by assumption))

theorem mapDel_keep {t : TypeId} {x k : AV} (h : mapDel P base σ t x k = some σ') : Keep base σ σ' := by
  unfold mapDel at h
  (repeat' split at h) <;> first
    | (cases h; done)
    | (cases h; exact Keep.refl _ _)
    | (cases h; exact Keep.set _ _ (by assumption))

theorem mapPut_keep {t : TypeId} {x k v : AV} (h : mapPut P base σ t x k v = some σ') : Keep base σ σ' := by
  unfold mapPut at h
  (repeat' split at h) <;> first
    | (cases h; done)
    | (cases h; exact Keep.set _ _ (by assumption))

theorem builtin_keep {b : Builtin} {ts : List TypeId} {args : List AV} {r : AV} (hb : base ≤ σ.length) (h : evalBuiltin P base b ts σ args = some (r, σ')) : Keep base σ σ' := by
  unfold evalBuiltin at h
  (repeat' split at h) <;> first
    | (cases h; done)
    | (cases h; exact Keep.refl _ _)
    | exact appendTo_keep hb h
    | (cases h; exact mapDel_keep (by assumption))

theorem evalV_keep (hC : CallOk P C) (hb : base ≤ σ.length) (h : evalV P C base isv bs nid env σ o = some (σ', sl)) : Keep base σ σ' := by
  unfold evalV at h
  (repeat' split at h) <;> first
    | (cases h; done)
    | (cases h; exact Keep.refl _ _)
    | (cases h; exact Keep.set _ _ (by simp_all))
    | (cases h; exact Keep.set _ _ (by have := ‹_ ∧ _›; omega))
    | (cases h; exact mapPut_keep (by assumption))
    | (cases h; exact builtin_keep hb (by assumption))
    | (cases h; exact hC.keep _ _ _ _ _ _ hb (by assumption))

theorem evalS_keep {t : TypeId} {x y : Operand} (h : evalS P base bs env σ t x y = some (env', σ')) : Keep base σ σ' := by
  unfold evalS storeAt at h
  (repeat' split at h) <;> first
    | (cases h; done)
    | (cases h; exact Keep.refl _ _)
    | (cases h; exact Keep.set _ _ (by assumption))

theorem evalOp_keep (hC : CallOk P C) (hb : base ≤ σ.length) (h : evalOp P C base isv bs nid env σ o = some (env', σ', sl)) : Keep base σ σ' := by
  unfold evalOp at h
  (repeat' split at h) <;> first
    | (cases h; done)
    | (cases h; exact evalS_keep (by assumption))
    | (cases h; exact evalV_keep hC hb (by assumption))

/-! Congruence. -/

theorem look_congr {env2 : Env} {x : Operand} (h : ∀ t, x = .tmp t → env2[t]? = env[t]?) : look env2 x = look env x := by
  cases x with
  | tmp t => simp only [look, h t rfl]
  | _ => rfl

theorem lookV_congr {env2 : Env} {x : Operand} (h : look env2 x = look env x) : lookV env2 x = lookV env x := by simp only [lookV, h]

theorem lookVs_congr {env2 : Env} : ∀ {xs : List Operand}, (∀ x ∈ xs, look env2 x = look env x) → lookVs env2 xs = lookVs env xs
  | [], _ => rfl
  | x :: xs, h => by
    simp only [lookVs]
    rw [lookV_congr (h x (by simp)), lookVs_congr (xs := xs) (fun y hy => h y (by simp [hy]))]

theorem lookParts_congr {env2 : Env} : ∀ {xs : List (Nat × Operand)}, (∀ x ∈ xs.map (·.2), look env2 x = look env x) → lookParts env2 xs = lookParts env xs
  | [], _ => rfl
  | (k, x) :: xs, h => by
    simp only [lookParts]
    rw [lookV_congr (h x (by simp)), lookParts_congr (xs := xs) (fun y hy => h y (by simp at hy ⊢; exact .inr hy))]

theorem optN_congr {env2 : Env} {x : Option Operand} (h : ∀ y ∈ x.toArray, look env2 y = look env y) : optN env2 x = optN env x := by
  cases x with
  | none => rfl
  | some y => simp only [optN]; rw [lookV_congr (h y (by simp))]

theorem loadAt_congr {env2 : Env} {t : TypeId} {s : Slot} (h : ∀ b off, s = .plc b off → env2[b]? = env[b]?) : loadAt P env2 σ t s = loadAt P env σ t s := by
  cases s with
  | plc b off => simp only [loadAt, h b off rfl]
  | val v => cases v <;> rfl
  | _ => rfl

/-- The slots whose contents an operation looks at, beside its operands: a variable that it loads or stores. -/
def baseReads (bs : Tmp → Option Tmp) (o : Oper) : List Tmp := match o.op with
  | .load _ (.tmp t) | .store _ (.tmp t) _ => (bs t).toList
  | _ => []

theorem evalV_congr {env2 : Env} (h1 : ∀ x ∈ o.op.operands, look env2 x = look env x) (h2 : ∀ t ∈ baseReads bs o, env2[t]? = env[t]?) : evalV P C base isv bs nid env2 σ o = evalV P C base isv bs nid env σ o := by
  have lv : ∀ x ∈ o.op.operands, lookV env2 x = lookV env x := fun x hx => lookV_congr (h1 x hx)
  unfold evalV
  cases ho : o.op <;> simp only [ho, Op.operands] at h1 lv ⊢
  case move x => rw [h1 x (by simp)]
  case assign x => rw [h1 x (by simp)]
  case pick c a b =>
    rw [lv c (by simp)]
    have : ∀ t : Bool, lookV env2 (if t = true then a else b) = lookV env (if t = true then a else b) := fun t => by cases t <;> simp [lv a (by simp), lv b (by simp)]
    simp only [this]
  case box e x => rw [lv x (by simp)]
  case build t ps => rw [lookParts_congr (xs := ps.toList) (fun x hx => h1 x (by simpa using hx))]
  case buildSlice t n ps => rw [lookParts_congr (xs := ps.toList) (fun x hx => h1 x (by simpa using hx))]
  case load t x =>
    rw [h1 x (by simp)]
    by_cases hadr0 : (adrOk bs x (look env x) && ldOk isv o.dst (look env x)) = true
    · rw [if_pos hadr0, if_pos hadr0]
      have hadr := (Bool.and_eq_true _ _ ▸ hadr0 : adrOk bs x (look env x) = true ∧ _).1
      rw [loadAt_congr (env2 := env2) (env := env) (fun b off e => ?_)]
      rw [e] at hadr
      cases x with
      | tmp t' =>
        simp only [adrOk, beq_iff_eq] at hadr
        exact h2 b (by simp [baseReads, ho, hadr])
      | _ => simp [adrOk] at hadr
    · rw [if_neg hadr0, if_neg hadr0]
  case nilCheck x => rw [h1 x (by simp)]
  case binOp op t x y t' => rw [lv x (by simp), lv y (by simp)]
  case unOp op t x => rw [lv x (by simp)]
  case convert t d x => rw [lv x (by simp)]
  case makeFunc f fi ca =>
    cases f <;> simp only []
    rw [lookVs_congr (xs := fi.toList) (fun x hx => h1 x (by simp at hx ⊢; exact .inl hx)), lookVs_congr (xs := ca.toList) (fun x hx => h1 x (by simp at hx ⊢; exact .inr hx))]
  case makeMap t r =>
    cases r with
    | none => rfl
    | some x => simp only []; rw [lv x (by simp)]
  case makeSlice t l c => rw [lv l (by simp), lv c (by simp)]
  case slice t x l h m =>
    rw [lv x (by simp), optN_congr (x := l) (fun y hy => h1 y (by simp at hy ⊢; simp [hy])), optN_congr (x := h) (fun y hy => h1 y (by simp at hy ⊢; simp [hy])), optN_congr (x := m) (fun y hy => h1 y (by simp at hy ⊢; simp [hy]))]
  case fieldAddr t x f => rw [h1 x (by simp)]
  case field t x f => rw [lv x (by simp)]
  case indexAddr t x i => rw [lv x (by simp), lv i (by simp)]
  case lookup t x k ok => rw [lv x (by simp), lv k (by simp)]
  case mapUpdate t m k x => rw [lv m (by simp), lv k (by simp), lv x (by simp)]
  case extract x i => rw [h1 x (by simp)]
  case call c =>
    rw [lookVs_congr (xs := c.args.toList) (fun x hx => h1 x (by simp [Call.operands] at hx ⊢; exact .inr hx))]
    cases hc : c.callee with
    | value f => simp only []; rw [lv f (by simp [Call.operands, hc])]
    | _ => rfl
  all_goals rfl

end
end Go.Can

namespace Go.Can
open Go Go.RowKit
section
variable {P : Program} {C : CallF} {base nid : Nat} {isv : Tmp → Bool} {bs : Tmp → Option Tmp} {pure grow : FuncId → Bool} {env env' : Env} {σ σ' : St} {o : Oper} {sl : Slot} {ops : List Oper}

/-- A small heap in which some free places may have been filled. -/
def Sup (σ σ2 : St) : Prop := ∀ (k : Nat) (x : Ob), σ[k]? = some x → x ≠ Ob.none → σ2[k]? = some x

theorem elems_sup {σ2 : St} {sz : Nat} {s : AV} {xs : List AV} (hs : Sup σ σ2) (hxs : elems σ sz s = some xs) : elems σ2 sz s = some xs := by
  unfold elems at hxs ⊢
  split at hxs
  · exact hxs
  · split at hxs
    · rename_i s2 ys hob
      rw [hs _ _ hob (by simp)]; exact hxs
    · cases hxs
  · cases hxs

theorem loadAt_sup {σ2 : St} {t : TypeId} {s : Slot} {v : AV} (hs : Sup σ σ2) (h : loadAt P env σ t s = some v) : loadAt P env σ2 t s = some v := by
  unfold loadAt at h ⊢
  split at h
  · exact h
  · split at h
    · rename_i cs hcs
      rw [hs _ _ hcs (by simp)]; exact h
    · cases h
  · split at h
    · rename_i xs hxs
      rw [elems_sup hs hxs]; exact h
    · cases h
  · cases h

theorem mapGet_sup {σ2 : St} {t : TypeId} {x k : AV} {r : Option AV} (hs : Sup σ σ2) (h : mapGet P σ t x k = some r) : mapGet P σ2 t x k = some r := by
  unfold mapGet at h ⊢
  split at h
  · split at h
    · rename_i hk
      rw [if_pos hk]
      split at h
      · exact h
      · split at h
        · rename_i es hes
          rw [hs _ _ hes (by simp)]; exact h
        · cases h
      · cases h
    · cases h
  · cases h

theorem evalV_no (hc : hcOf P pure grow isv bs o = .no) (h : evalV P C base isv bs nid env σ o = some (σ', sl)) : σ' = σ ∧ ∀ nid2 σ2, evalV P C base isv bs nid2 env σ2 o = some (σ2, sl) := by
  unfold evalV at h ⊢
  unfold hcOf at hc
  cases ho : o.op <;> simp only [ho] at h hc ⊢
  case load t x =>
    cases x with
    | tmp t' =>
      simp only at hc
      split at hc
      · rename_i hb
        split at h
        · rename_i hadr
          split at h
          · rename_i v hv
            cases h
            refine ⟨rfl, fun nid2 σ2 => ?_⟩
            have : loadAt P env σ2 t (look env (.tmp t')) = some v := by
              cases hl : look env (.tmp t') with
              | plc s off => rw [hl] at hv; exact hv
              | _ => rw [hl] at hadr; simp [adrOk] at hadr; rw [hadr.1] at hb; simp at hb
            rw [this, if_pos hadr]
          · cases h
        · cases h
      · split at hc <;> cases hc
    | _ => cases hc
  case alloc e =>
    split at hc
    · rename_i hv
      simp only [hv, if_true] at h ⊢
      split at h
      · cases h; exact ⟨rfl, fun _ _ => rfl⟩
      · cases h
    · cases hc
  case box e x =>
    split at hc
    · rename_i hv
      simp only [hv, if_true] at h ⊢
      split at h
      · cases h; exact ⟨rfl, fun _ _ => rfl⟩
      · cases h
    · cases hc
  case call c =>
    rcases c with ⟨callee, args, ts⟩
    cases callee with
    | builtin b =>
      cases b <;> simp only at hc <;> try (cases hc; done)
      split at hc
      · rename_i t ht
        split at hc
        · cases hc
        · rename_i hm
          simp only [ht] at h ⊢
          split at h
          · rename_i as has
            split at h
            · rename_i v s1 hev
              cases h
              unfold evalBuiltin at hev
              split at hev
              · contradiction
              · rename_i t' x e0 e1 e2
                cases e1
                split at hev
                · rename_i hu
                  split at hev
                  · cases hev; exact ⟨rfl, fun _ _ => by simp_all [evalBuiltin]⟩
                  · cases hev
                · rename_i hu
                  split at hev
                  · cases hev; exact ⟨rfl, fun _ _ => by simp_all [evalBuiltin]⟩
                  · cases hev
                · rename_i hu; exact absurd (by cases e2; unfold lenMap; rw [hu]) hm
                · cases hev
              · contradiction
              · cases hev
            · cases h
          · cases h
      · cases hc
    | value f =>
      cases f <;> simp only at hc <;> try (cases hc; done)
      (repeat' split at hc) <;> cases hc
    | invoke r m => cases hc
  case makeFunc f a b =>
    cases f <;> simp only at h ⊢ <;> try (cases h; done)
    (repeat' split at h) <;> first
        | (cases h; done)
        | (cases h; refine ⟨rfl, fun _ _ => ?_⟩; simp_all; done)
  all_goals first
    | (cases hc; done)
    | (cases h; done)
    | (exfalso; revert hc; (repeat' split) <;> (intro hc; cases hc); done)
    | ((repeat' split at h) <;> first
        | (cases h; done)
        | (cases h; exact ⟨rfl, fun _ _ => rfl⟩)
        | (cases h; refine ⟨rfl, fun _ _ => ?_⟩; simp_all; done))

theorem evalV_rd (hc : hcOf P pure grow isv bs o = .rd) (h : evalV P C base isv bs nid env σ o = some (σ', sl)) : σ' = σ ∧ ∀ nid2 σ2, Sup σ σ2 → evalV P C base isv bs nid2 env σ2 o = some (σ2, sl) := by
  unfold evalV at h ⊢
  unfold hcOf at hc
  cases ho : o.op <;> simp only [ho] at h hc ⊢ <;> try (cases hc; done)
  case store t x y => cases h
  case load t x =>
    split at h
    · rename_i hadr
      split at h
      · rename_i v hv
        cases h
        exact ⟨rfl, fun nid2 σ2 hs => by rw [loadAt_sup hs hv, if_pos hadr]⟩
      · cases h
    · cases h
  case alloc e => split at hc <;> cases hc
  case box e x => split at hc <;> cases hc
  case lookup t x k ok =>
    split at h
    · rename_i m kv h1 h2
      split at h
      · rename_i r hr
        refine ⟨by (repeat' split at h) <;> first | (cases h; done) | (cases h; rfl), fun nid2 σ2 hs => ?_⟩
        rw [mapGet_sup hs hr]
        (repeat' split at h) <;> first | (cases h; done) | (cases h; simp_all)
      · cases h
    · cases h
  case call c =>
    rcases c with ⟨callee, args, ts⟩
    cases callee with
    | builtin b =>
      cases b <;> simp only at hc <;> try (cases hc; done)
      split at hc
      · rename_i t ht
        simp only [ht] at h ⊢
        split at h
        · rename_i as has
          split at h
          · rename_i v s1 hev
            cases h
            have key : σ' = σ ∧ ∀ σ2, Sup σ σ2 → evalBuiltin P base .len [t] σ2 as = some (v, σ2) := by
              unfold evalBuiltin at hev ⊢
              split at hev
              · contradiction
              · rename_i t' x e0 e1 e2
                cases e1; cases e2
                split at hev
                · rename_i hu
                  split at hev
                  · cases hev; exact ⟨rfl, fun _ _ => by simp_all⟩
                  · cases hev
                · rename_i hu
                  split at hev
                  · cases hev; exact ⟨rfl, fun _ _ => by simp_all⟩
                  · cases hev
                · rename_i hu
                  split at hev
                  · cases hev; exact ⟨rfl, fun _ _ => by simp_all⟩
                  · split at hev
                    · rename_i es hes
                      cases hev; exact ⟨rfl, fun σ2 hs => by have := hs _ _ hes (by simp); simp_all⟩
                    · cases hev
                  · cases hev
                · cases hev
              · contradiction
              · cases hev
            exact ⟨key.1, fun nid2 σ2 hs => by rw [key.2 σ2 hs]⟩
          · cases h
        · cases h
      · cases hc
    | value f =>
      cases f <;> simp only at hc <;> try (cases hc; done)
      (repeat' split at hc) <;> cases hc
    | invoke r m => cases hc

theorem evalV_call (hp : ∀ f args σ base r σ', pure f = true → C f args σ base = some (r, σ') → σ' = σ) (hc : hcOf P pure grow isv bs o = .call) (h : evalV P C base isv bs nid env σ o = some (σ', sl)) : σ' = σ := by
  unfold evalV at h
  unfold hcOf at hc
  cases ho : o.op <;> simp only [ho] at h hc <;> try (cases hc; done)
  case load t x => cases x <;> simp only at hc <;> first | (cases hc; done) | ((repeat' split at hc) <;> cases hc)
  case store t x y => cases x <;> simp only at hc <;> first | (cases hc; done) | (split at hc <;> cases hc)
  case alloc e => split at hc <;> cases hc
  case box e x => split at hc <;> cases hc
  case call c =>
    rcases c with ⟨callee, args, ts⟩
    cases callee with
    | builtin b =>
      cases b <;> simp only at hc <;> try (cases hc; done)
      split at hc
      · split at hc <;> cases hc
      · cases hc
    | value f =>
      cases f <;> simp only at hc <;> try (cases hc; done)
      rename_i f
      split at hc
      · rename_i hpf
        split at h
        · simp only [lookV, look, Slot.v] at h
          split at h
          · rename_i v s1 hcall
            cases h
            exact hp _ _ _ _ _ _ hpf hcall
          · cases h
        · cases h
      · split at hc <;> cases hc
    | invoke r m => cases hc

theorem evalV_grow (hg : ∀ f args σ base r σ', grow f = true → C f args σ base = some (r, σ') → Sup σ σ') (hc : hcOf P pure grow isv bs o = .grow) (h : evalV P C base isv bs nid env σ o = some (σ', sl)) : Sup σ σ' := by
  unfold evalV at h
  unfold hcOf at hc
  cases ho : o.op <;> simp only [ho] at h hc <;> try (cases hc; done)
  case load t x => cases x <;> simp only at hc <;> first | (cases hc; done) | ((repeat' split at hc) <;> cases hc)
  case store t x y => cases x <;> simp only at hc <;> first | (cases hc; done) | (split at hc <;> cases hc)
  case alloc e => split at hc <;> cases hc
  case box e x => split at hc <;> cases hc
  case call c =>
    rcases c with ⟨callee, args, ts⟩
    cases callee with
    | builtin b =>
      cases b <;> simp only at hc <;> try (cases hc; done)
      split at hc
      · split at hc <;> cases hc
      · cases hc
    | value f =>
      cases f <;> simp only at hc <;> try (cases hc; done)
      rename_i f
      split at hc
      · cases hc
      · split at hc
        · rename_i hgf
          split at h
          · simp only [lookV, look, Slot.v] at h
            split at h
            · rename_i v s1 hcall
              cases h
              exact hg _ _ _ _ _ _ hgf hcall
            · cases h
          · cases h
        · cases hc
    | invoke r m => cases hc

/-- The objects of cells that stand in 'σ' stand in 'σ2'. -/
def SupC (σ σ2 : St) : Prop := ∀ (k : Nat) (cs : List AV), σ[k]? = some (.cells cs) → σ2[k]? = some (.cells cs)

theorem Sup.supC {σ σ2 : St} (h : Sup σ σ2) : SupC σ σ2 := fun k cs hk => h k _ hk (by simp)
theorem SupC.refl {σ : St} : SupC σ σ := fun _ _ h => h
theorem SupC.app {σ : St} {x : Ob} : SupC σ (σ ++ [x]) := fun k cs hk => by rw [List.getElem?_append_left (List.getElem?_eq_some_iff.1 hk).1]; exact hk
theorem SupC.setRow {σ : St} {id s : Nat} {xs : List AV} {y : Ob} (h : σ[id]? = some (.row s xs)) : SupC σ (σ.set id y) := fun k cs hk => by
  rw [List.getElem?_set_ne]
  · exact hk
  · intro e; subst e; rw [h] at hk; cases hk

theorem appendTo_supC {σ σ' : St} {sz bytes : Nat} {s r : AV} {ys : List AV} (h : appendTo base σ sz bytes s ys = some (r, σ')) : SupC σ σ' := by
  unfold appendTo at h
  split at h
  · (repeat' split at h) <;> first
      | (cases h; done)
      | (cases h; exact SupC.app)
      | (cases h; exact SupC.refl)
  · (repeat' split at h) <;> first
      | (cases h; done)
      | (cases h; exact SupC.app)
      | (cases h; exact SupC.refl)
  · split at h
    · rename_i hob
      (repeat' split at h) <;> first
        | (cases h; done)
        | (cases h; exact SupC.app)
        | (cases h; exact SupC.refl)
        | (cases h; exact SupC.setRow hob)
    · cases h
  · cases h

theorem evalV_app (hc : hcOf P pure grow isv bs o = .app) (h : evalV P C base isv bs nid env σ o = some (σ', sl)) : SupC σ σ' := by
  unfold evalV at h
  unfold hcOf at hc
  cases ho : o.op <;> simp only [ho] at h hc <;> try (cases hc; done)
  case load t x => cases x <;> simp only at hc <;> first | (cases hc; done) | ((repeat' split at hc) <;> cases hc)
  case store t x y => cases x <;> simp only at hc <;> first | (cases hc; done) | (split at hc <;> cases hc)
  case alloc e => split at hc <;> cases hc
  case box e x => split at hc <;> cases hc
  case call c =>
    rcases c with ⟨callee, args, ts⟩
    cases callee with
    | builtin b =>
      cases b <;> simp only at hc <;> try (cases hc; done)
      · simp only at h
        split at h
        · split at h
          · rename_i hev
            cases h
            unfold evalBuiltin at hev
            split at hev
            · (repeat' split at hev) <;> first
                | (cases hev; done)
                | exact appendTo_supC hev
            · contradiction
            · contradiction
            · cases hev
          · cases h
        · cases h
      all_goals ((repeat' split at hc) <;> cases hc)
    | value f =>
      cases f <;> simp only at hc <;> try (cases hc; done)
      (repeat' split at hc) <;> cases hc
    | invoke r m => cases hc

theorem evalV_rdc (hc : hcOf P pure grow isv bs o = .rdc) (h : evalV P C base isv bs nid env σ o = some (σ', sl)) : σ' = σ ∧ ∀ nid2 σ2, SupC σ σ2 → evalV P C base isv bs nid2 env σ2 o = some (σ2, sl) := by
  unfold evalV at h ⊢
  unfold hcOf at hc
  cases ho : o.op <;> simp only [ho] at h hc ⊢ <;> try (cases hc; done)
  case store t x y => cases x <;> simp only at hc <;> first | (cases hc; done) | (split at hc <;> cases hc)
  case alloc e => split at hc <;> cases hc
  case box e x => split at hc <;> cases hc
  case call c =>
    rcases c with ⟨callee, args, ts⟩
    cases callee with
    | builtin b =>
      cases b <;> simp only at hc <;> try (cases hc; done)
      all_goals ((repeat' split at hc) <;> cases hc)
    | value f =>
      cases f <;> simp only at hc <;> try (cases hc; done)
      (repeat' split at hc) <;> cases hc
    | invoke r m => cases hc
  case load t x =>
    cases x <;> simp only at hc <;> try (cases hc; done)
    rename_i t'
    split at hc
    · cases hc
    · split at hc
      · rename_i hv
        split at h
        · rename_i hadr
          have hp : (look env (.tmp t')).isPtr = true := by
            have := (Bool.and_eq_true _ _ ▸ hadr : _ ∧ ldOk isv o.dst (look env (.tmp t')) = true).2
            simpa [ldOk, hv] using this
          split at h
          · rename_i v hl
            cases h
            refine ⟨rfl, fun nid2 σ2 hs => ?_⟩
            have : loadAt P env σ2 t (look env (.tmp t')) = some v := by
              generalize look env (.tmp t') = sl at hp hl
              cases sl with
              | val a =>
                cases a with
                | ptr id off =>
                  simp only [loadAt] at hl ⊢
                  split at hl
                  · rename_i cs hcs
                    rw [hs _ _ hcs]; exact hl
                  · cases hl
                | _ => cases hp
              | _ => cases hp
            rw [this, if_pos hadr]
          · cases h
        · cases h
      · cases hc

theorem fresh_iff {σ : St} {nid : Nat} : fresh σ nid = true ↔ σ[nid]? = some Ob.none := by
  constructor
  · intro h; exact fresh_spec h
  · intro h; simp [fresh, h]

/-- A new object: it takes the free place that is its own, and looks at nothing else. -/
theorem evalV_new (hc : hcOf P pure grow isv bs o = .new) (h : evalV P C base isv bs nid env σ o = some (σ', sl)) :
    ∃ ob, ob ≠ Ob.none ∧ σ[nid]? = some Ob.none ∧ σ' = σ.set nid ob ∧ ∀ σ2 : St, σ2[nid]? = some Ob.none → evalV P C base isv bs nid env σ2 o = some (σ2.set nid ob, sl) := by
  unfold evalV at h ⊢
  unfold hcOf at hc
  cases ho : o.op <;> simp only [ho] at h hc ⊢ <;> try (cases hc; done)
  case load t x => cases x <;> simp only at hc <;> first | (cases hc; done) | ((repeat' split at hc) <;> cases hc)
  case store t x y => cases x <;> simp only at hc <;> first | (cases hc; done) | (split at hc <;> cases hc)
  case alloc e =>
    split at hc
    · cases hc
    · rename_i hv
      simp only [hv] at h ⊢
      split at h
      · rename_i z hz
        simp only [Bool.false_eq_true, if_false] at h ⊢
        split at h
        · rename_i hn
          cases h
          simp only [Bool.and_eq_true] at hn
          exact ⟨_, by simp, fresh_iff.1 hn.1, rfl, fun σ2 h2 => by rw [if_pos (by simp only [Bool.and_eq_true]; exact ⟨fresh_iff.2 h2, hn.2⟩)]⟩
        · cases h
      · cases h
  case box e x =>
    split at hc
    · cases hc
    · rename_i hv
      simp only [hv] at h ⊢
      split at h
      · rename_i z hz
        simp only [Bool.false_eq_true, if_false] at h ⊢
        split at h
        · rename_i hn
          cases h
          simp only [Bool.and_eq_true] at hn
          exact ⟨_, by simp, fresh_iff.1 hn.1, rfl, fun σ2 h2 => by rw [if_pos (by simp only [Bool.and_eq_true]; exact ⟨fresh_iff.2 h2, hn.2⟩)]⟩
        · cases h
      · cases h
  case makeMap t r =>
    cases r with
    | none =>
      simp only at h ⊢
      split at h
      · rename_i hz
        split at h
        · rename_i hn
          cases h
          simp only [Bool.and_eq_true] at hn
          exact ⟨_, by simp, fresh_iff.1 hn.1, rfl, fun σ2 h2 => by rw [if_pos (by simp only [Bool.and_eq_true]; exact ⟨fresh_iff.2 h2, hn.2⟩)]⟩
        · cases h
      · cases h
    | some x =>
      simp only at h ⊢
      split at h
      · rename_i hz
        split at h
        · rename_i hn
          cases h
          simp only [Bool.and_eq_true] at hn
          exact ⟨_, by simp, fresh_iff.1 hn.1, rfl, fun σ2 h2 => by rw [if_pos (by simp only [Bool.and_eq_true]; exact ⟨fresh_iff.2 h2, hn.2⟩)]⟩
        · cases h
      · cases h
  case makeSlice t l c =>
    split at h
    · split at h
      · split at h
        · rename_i hn
          cases h
          exact ⟨_, by simp, fresh_iff.1 hn.2.2.2.2.2.2.1, rfl, fun σ2 h2 => by rw [if_pos ⟨hn.1, hn.2.1, hn.2.2.1, hn.2.2.2.1, hn.2.2.2.2.1, hn.2.2.2.2.2.1, fresh_iff.2 h2, hn.2.2.2.2.2.2.2⟩]⟩
        · cases h
      · cases h
    · cases h
  case call c =>
    rcases c with ⟨callee, args, ts⟩
    cases callee with
    | builtin b =>
      cases b <;> simp only at hc <;> try (cases hc; done)
      split at hc
      · split at hc <;> cases hc
      · cases hc
    | value f =>
      cases f <;> simp only at hc <;> try (cases hc; done)
      (repeat' split at hc) <;> cases hc
    | invoke r m => cases hc

/-! Stores. -/

/-- A store changes one variable of the frame, the one that the text says; or none. -/
theorem evalS_spec {t : TypeId} {x y : Operand} (h : evalS P base bs env σ t x y = some (env', σ')) :
    (∃ tt s cs, x = .tmp tt ∧ bs tt = some s ∧ σ' = σ ∧ env' = env.set s (.var cs) ∧ s < env.length ∧ ∀ env2 σ2, look env2 x = look env x → look env2 y = look env y → env2[s]? = env[s]? → evalS P base bs env2 σ2 t x y = some (env2.set s (.var cs), σ2)) ∨
    (env' = env ∧ (∀ tt, x = .tmp tt → bs tt = none) ∧ ∀ env2, look env2 x = look env x → look env2 y = look env y → evalS P base bs env2 σ t x y = some (env2, σ')) := by
  unfold evalS at h
  split at h
  · rename_i hadr
    split at h
    · rename_i v hv
      cases hl : look env x with
      | plc s off =>
        left
        rw [hl] at h hadr
        cases x with
        | tmp tt =>
          simp only [adrOk, beq_iff_eq] at hadr
          unfold storeAt at h
          split at h
          · rename_i hsz
            simp only at h
            split at h
            · rename_i cs hcs
              split at h
              · rename_i cs' hsp
                cases h
                refine ⟨tt, s, cs', rfl, hadr, rfl, rfl, (List.getElem?_eq_some_iff.1 hcs).1, fun env2 σ2 e1 e2 e3 => ?_⟩
                unfold evalS
                rw [e1, if_pos (by simp [adrOk, hadr]), lookV_congr e2, hv]
                simp only [storeAt]
                rw [if_pos hsz, e3, hcs]
                simp only [hsp]
              · cases h
            · cases h
          · cases h
        | _ => simp [adrOk] at hadr
      | val a =>
        right
        rw [hl] at h hadr
        refine ⟨?_, fun tt e => by subst e; simpa [adrOk] using hadr, fun env2 e1 e2 => ?_⟩
        · unfold storeAt at h
          (repeat' split at h) <;> first | (cases h; done) | (cases h; rfl) | simp_all
        · unfold evalS
          rw [e1, if_pos hadr, lookV_congr e2, hv]
          simp only
          unfold storeAt at h ⊢
          (repeat' split at h) <;> first | (cases h; done) | (cases h; simp_all) | simp_all
      | var cs => rw [hl] at h; unfold storeAt at h; (repeat' split at h) <;> first | (cases h; done) | simp_all
      | und => rw [hl] at h; unfold storeAt at h; (repeat' split at h) <;> first | (cases h; done) | simp_all
      | top => rw [hl] at h; unfold storeAt at h; (repeat' split at h) <;> first | (cases h; done) | simp_all
    · cases h
  · cases h

end
end Go.Can

namespace Go.Can
open Go Go.RowKit
section
variable {P : Program} {C : CallF} {base nid : Nat} {isv : Tmp → Bool} {bs : Tmp → Option Tmp} {pure grow : FuncId → Bool} {env env' : Env} {σ σ' : St} {o : Oper} {sl : Slot} {ops : List Oper}

/-- One operation, its place given. -/
def stepO (P : Program) (C : CallF) (base : Nat) (isv : Tmp → Bool) (bs : Tmp → Option Tmp) (ops : List Oper) (nid : Nat) (o : Oper) (s : Env × St) : Option (Env × St) :=
  if okDst s.1 o.dst then match wantedA ops s.1 o with
    | some true => match evalOp P C base isv bs nid s.1 s.2 o with
      | some (env, σ, sl) => some (putA env o.dst sl, σ)
      | none => none
    | some false => some (putA s.1 o.dst .und, s.2)
    | none => none
  else none

theorem stepA_stepO {n0 i : Nat} {s : Env × St} (h : ops[i]? = some o) : stepA P C base isv bs ops n0 i s = stepO P C base isv bs ops (n0 + (ops.take i).countP (allocs isv)) o s := by
  unfold stepA stepO; rw [h]; rfl

def applyU : List (Tmp × Slot) → Env → Env
  | [], env => env
  | (t, s) :: us, env => applyU us (env.set t s)

theorem applyU_length : ∀ {us : List (Tmp × Slot)} {env : Env}, (applyU us env).length = env.length
  | [], _ => rfl
  | (t, s) :: us, env => by simp [applyU, applyU_length (us := us)]

theorem applyU_get : ∀ {us : List (Tmp × Slot)} {env : Env} {k : Nat}, (∀ p ∈ us, p.1 ≠ k) → (applyU us env)[k]? = env[k]?
  | [], _, _, _ => rfl
  | (t, s) :: us, env, k, h => by
    simp only [applyU]
    rw [applyU_get (us := us) (fun p hp => h p (by simp [hp])), List.getElem?_set_ne (h (t, s) (by simp))]

theorem applyU_set : ∀ {us : List (Tmp × Slot)} {env : Env} {k : Nat} {v : Slot}, (∀ p ∈ us, p.1 ≠ k) → applyU us (env.set k v) = (applyU us env).set k v
  | [], _, _, _, _ => rfl
  | (t, s) :: us, env, k, v, h => by
    simp only [applyU]
    rw [List.set_comm _ _ (fun e => h (t, s) (by simp) e.symm), applyU_set (us := us) (fun p hp => h p (by simp [hp]))]

theorem applyU_comm : ∀ {us vs : List (Tmp × Slot)} {env : Env}, (∀ p ∈ us, ∀ q ∈ vs, p.1 ≠ q.1) → applyU us (applyU vs env) = applyU vs (applyU us env)
  | [], _, _, _ => rfl
  | (t, s) :: us, vs, env, h => by
    simp only [applyU]
    rw [← applyU_set (us := vs) (fun q hq e => h (t, s) (by simp) q hq e.symm), applyU_comm (us := us) (fun p hp => h p (by simp [hp]))]

structure Agree (env env2 : Env) (L : List Tmp) : Prop where
  len : env2.length = env.length
  get : ∀ t ∈ L, env2[t]? = env[t]?

def DomOk (k : HC) (σ σ2 : St) : Prop := match k with
  | .rd => Sup σ σ2
  | .rdc => SupC σ σ2
  | .call => σ2 = σ
  | _ => True

/-- What an operation does, and what it looks at. -/
def StepSpec (step : Env × St → Option (Env × St)) (R W : List Tmp) (k : HC) (nid : Nat) (env : Env) (σ : St) (env' : Env) (σ' : St) : Prop :=
  ∃ us : List (Tmp × Slot), (∀ p ∈ us, p.1 ∈ W) ∧ env' = applyU us env ∧
    ((σ' = σ ∧ ∀ env2 σ2, Agree env env2 (R ++ W) → DomOk k σ σ2 → step (env2, σ2) = some (applyU us env2, σ2)) ∨
     (k = .new ∧ ∃ ob, ob ≠ Ob.none ∧ σ[nid]? = some Ob.none ∧ σ' = σ.set nid ob ∧ ∀ env2 (σ2 : St), Agree env env2 (R ++ W) → σ2[nid]? = some Ob.none → step (env2, σ2) = some (applyU us env2, σ2.set nid ob)) ∨
     ((k = .wr ∨ (k = .grow ∧ Sup σ σ') ∨ (k = .app ∧ SupC σ σ')) ∧ ∀ env2, Agree env env2 (R ++ W) → step (env2, σ) = some (applyU us env2, σ')))

theorem okDst_congr {env2 : Env} {d : Option Tmp} (h : ∀ t ∈ d.toList, env2[t]? = env[t]?) : okDst env2 d = okDst env d := by
  cases d with
  | none => rfl
  | some t => simp only [okDst, h t (by simp)]

theorem wantedA_congr {env2 : Env} (h : ∀ t ∈ readsOf bs ops o, env2[t]? = env[t]?) : wantedA ops env2 o = wantedA ops env o := by
  unfold wantedA
  cases hg : o.guard with
  | none => rfl
  | some g =>
    obtain ⟨j, want⟩ := g
    simp only
    cases hd : (ops[j]?).bind (·.dst) with
    | none => rfl
    | some d =>
      simp only
      rw [h d (by unfold readsOf; rw [hg]; simp [hd])]

def dU : Option Tmp → Slot → List (Tmp × Slot)
  | some d, s => [(d, s)]
  | none, _ => []

theorem putA_U {d : Option Tmp} {s : Slot} : putA env d s = applyU (dU d s) env := by cases d <;> rfl

theorem putA_set_U {d : Option Tmp} {s v : Slot} {k : Nat} : putA (env.set k v) d s = applyU ((k, v) :: dU d s) env := by cases d <;> rfl

theorem mem_ops_reads {t : Tmp} (h : Operand.tmp t ∈ o.op.operands) : t ∈ readsOf bs ops o := by
  unfold readsOf
  simp only [List.mem_append]
  exact .inl (.inl (List.mem_filterMap.2 ⟨.tmp t, by simpa using h, rfl⟩))

theorem mem_base_reads {t : Tmp} (h : t ∈ baseReads bs o) : t ∈ readsOf bs ops o := by
  unfold readsOf
  simp only [List.mem_append]
  refine .inl (.inr ?_)
  unfold baseReads at h
  cases ho : o.op <;> simp only [ho] at h ⊢ <;> try (cases h; done)
  case load t a => cases a <;> simp only at h ⊢ <;> first | exact h | (cases h; done)
  case store t a x => cases a <;> simp only at h ⊢ <;> first | exact h | (cases h; done)

theorem agree_look {env2 : Env} {W : List Tmp} (ha : Agree env env2 (readsOf bs ops o ++ W)) : ∀ x ∈ o.op.operands, look env2 x = look env x := fun x hx =>
  look_congr fun t e => ha.get t (by subst e; exact List.mem_append.2 (.inl (mem_ops_reads hx)))

theorem agree_evalV {env2 : Env} {W : List Tmp} (ha : Agree env env2 (readsOf bs ops o ++ W)) {nid : Nat} {σ : St} : evalV P C base isv bs nid env2 σ o = evalV P C base isv bs nid env σ o :=
  evalV_congr (agree_look ha) (fun t ht => ha.get t (List.mem_append.2 (.inl (mem_base_reads ht))))

theorem evalOp_noS (hs : ∀ t a x, o.op ≠ .store t a x) : evalOp P C base isv bs nid env σ o = match evalV P C base isv bs nid env σ o with
    | some (σ', sl) => some (env, σ', sl)
    | none => none := by
  unfold evalOp
  split
  · rename_i t a x e; exact absurd e (hs t a x)
  · rfl

theorem hc_not_store {k : HC} (hk : hcOf P pure grow isv bs o = k) {t : TypeId} {a x : Operand} (h : o.op = .store t a x) : k = .no ∨ k = .wr := by
  unfold hcOf at hk
  rw [h] at hk
  cases a <;> simp only at hk
  · split at hk <;> simp [← hk]
  all_goals simp [← hk]

theorem step_spec (hp : ∀ f args σ base r σ', pure f = true → C f args σ base = some (r, σ') → σ' = σ) (hg : ∀ f args σ base r σ', grow f = true → C f args σ base = some (r, σ') → Sup σ σ') (h : stepO P C base isv bs ops nid o (env, σ) = some (env', σ')) :
    StepSpec (stepO P C base isv bs ops nid o) (readsOf bs ops o) (writesOf bs o) (hcOf P pure grow isv bs o) nid env σ env' σ' := by
  unfold stepO at h
  split at h
  · rename_i hd
    have hd2 : ∀ {env2 : Env}, Agree env env2 (readsOf bs ops o ++ writesOf bs o) → okDst env2 o.dst = true := fun {env2} ha => by
      rw [okDst_congr (env := env) (fun t ht => ha.get t (List.mem_append.2 (.inr (by unfold writesOf; exact List.mem_append.2 (.inl ht)))))]; exact hd
    have hw2 : ∀ {env2 : Env}, Agree env env2 (readsOf bs ops o ++ writesOf bs o) → wantedA ops env2 o = wantedA ops env o := fun {env2} ha =>
      wantedA_congr fun t ht => ha.get t (List.mem_append.2 (.inl ht))
    have hdW : ∀ (s : Slot), ∀ p ∈ dU o.dst s, p.1 ∈ writesOf bs o := fun s p hp => by
      unfold writesOf
      refine List.mem_append.2 (.inl ?_)
      cases hdd : o.dst with
      | none => rw [hdd] at hp; cases hp
      | some d => rw [hdd] at hp; simp [dU] at hp; subst hp; simp
    split at h
    · rename_i hw
      split at h
      · rename_i e1 s1 sl hev
        cases h
        by_cases hst : ∃ t a x, o.op = .store t a x
        · obtain ⟨t, a, x, hst⟩ := hst
          have hev' := hev
          unfold evalOp at hev'
          simp only [hst] at hev'
          split at hev'
          · rename_i e2 s2 hS
            cases hev'
            have hstep : ∀ env2 σ2 e3 s3, Agree env env2 (readsOf bs ops o ++ writesOf bs o) → evalS P base bs env2 σ2 t a x = some (e3, s3) → stepO P C base isv bs ops nid o (env2, σ2) = some (putA e3 o.dst .und, s3) := fun env2 σ2 e3 s3 ha hS2 => by
              unfold stepO
              rw [if_pos (hd2 ha), hw2 ha, hw]
              simp only [evalOp, hst, hS2]
            rcases evalS_spec hS with ⟨tt, s, cs, e1, e2, e3, e4, e5, e6⟩ | ⟨e1, e2, e3⟩
            · subst e3; subst e4; subst e1
              have hk : hcOf P pure grow isv bs o = .no := by unfold hcOf; rw [hst]; simp [e2]
              refine ⟨(s, .var cs) :: dU o.dst .und, fun p hp => ?_, putA_set_U, .inl ⟨rfl, fun env2 σ2 ha _ => ?_⟩⟩
              · rcases List.mem_cons.1 hp with rfl | hp
                · unfold writesOf; rw [hst]; simp [e2]
                · exact hdW _ p hp
              · rw [hstep env2 σ2 _ _ ha (e6 env2 σ2 (agree_look ha _ (by simp [hst, Op.operands])) (agree_look ha _ (by simp [hst, Op.operands])) (ha.get s (by
                  refine List.mem_append.2 (.inr ?_)
                  unfold writesOf; rw [hst]; simp [e2]))), putA_set_U]
            · subst e1
              have hk : hcOf P pure grow isv bs o = .wr := by
                unfold hcOf; rw [hst]
                cases a with
                | tmp tt => simp [e2 tt rfl]
                | _ => rfl
              refine ⟨dU o.dst .und, hdW _, putA_U, .inr (.inr ⟨.inl hk, fun env2 ha => ?_⟩)⟩
              rw [hstep env2 σ _ _ ha (e3 env2 (agree_look ha _ (by simp [hst, Op.operands])) (agree_look ha _ (by simp [hst, Op.operands]))), putA_U]
          · cases hev'
        · have hns : ∀ t a x, o.op ≠ .store t a x := fun t a x e => hst ⟨t, a, x, e⟩
          have hV : evalV P C base isv bs nid env σ o = some (σ', sl) ∧ e1 = env := by
            rw [evalOp_noS hns] at hev
            split at hev
            · rename_i hv; cases hev; exact ⟨hv, rfl⟩
            · cases hev
          obtain ⟨hV, rfl⟩ := hV
          have hstep : ∀ env2 σ2 s3, Agree e1 env2 (readsOf bs ops o ++ writesOf bs o) → evalV P C base isv bs nid e1 σ2 o = some (s3, sl) → stepO P C base isv bs ops nid o (env2, σ2) = some (applyU (dU o.dst sl) env2, s3) := fun env2 σ2 s3 ha hS2 => by
            unfold stepO
            rw [if_pos (hd2 ha), hw2 ha, hw]
            simp only [evalOp_noS hns]
            rw [agree_evalV ha, hS2]
            simp only [putA_U]
          refine ⟨dU o.dst sl, hdW _, putA_U, ?_⟩
          cases hk : hcOf P pure grow isv bs o with
          | no =>
            obtain ⟨rfl, hh⟩ := evalV_no hk hV
            exact .inl ⟨rfl, fun env2 σ2 ha _ => hstep env2 σ2 _ ha (hh _ _)⟩
          | rd =>
            obtain ⟨rfl, hh⟩ := evalV_rd hk hV
            exact .inl ⟨rfl, fun env2 σ2 ha hs => hstep env2 σ2 _ ha (hh _ _ hs)⟩
          | call =>
            have := evalV_call hp hk hV
            subst this
            exact .inl ⟨rfl, fun env2 σ2 ha hs => by cases hs; exact hstep env2 _ _ ha hV⟩
          | new =>
            obtain ⟨ob, h1, h2, h3, h4⟩ := evalV_new hk hV
            exact .inr (.inl ⟨rfl, ob, h1, h2, h3, fun env2 σ2 ha hs => hstep env2 _ _ ha (h4 σ2 hs)⟩)
          | wr => exact .inr (.inr ⟨.inl rfl, fun env2 ha => hstep env2 _ _ ha hV⟩)
          | grow => exact .inr (.inr ⟨.inr (.inl ⟨rfl, evalV_grow hg hk hV⟩), fun env2 ha => hstep env2 _ _ ha hV⟩)
          | app => exact .inr (.inr ⟨.inr (.inr ⟨rfl, evalV_app hk hV⟩), fun env2 ha => hstep env2 _ _ ha hV⟩)
          | rdc =>
            obtain ⟨rfl, hh⟩ := evalV_rdc hk hV
            exact .inl ⟨rfl, fun env2 σ2 ha hs => hstep env2 σ2 _ ha (hh _ _ hs)⟩
      · cases h
    · rename_i hw
      cases h
      refine ⟨dU o.dst .und, hdW _, putA_U, .inl ⟨rfl, fun env2 σ2 ha _ => ?_⟩⟩
      unfold stepO
      rw [if_pos (hd2 ha), hw2 ha, hw]
      simp only [putA_U]
    · cases h
  · cases h

theorem Sup.refl {σ : St} : Sup σ σ := fun _ _ h _ => h
theorem Sup.set {σ : St} {k : Nat} {x : Ob} (h : σ[k]? = some Ob.none) : Sup σ (σ.set k x) := fun j y hj hy => by
  rw [List.getElem?_set_ne]
  · exact hj
  · intro e; subst e; rw [h] at hj; cases hj; exact hy rfl

theorem agree_after {env : Env} {us : List (Tmp × Slot)} {L : List Tmp} (h : ∀ p ∈ us, p.1 ∉ L) : Agree (applyU us env) env L :=
  ⟨applyU_length.symm, fun t ht => (applyU_get fun p hp e => h p hp (e ▸ ht)).symm⟩

theorem Agree.symm {env env2 : Env} {L : List Tmp} (h : Agree env env2 L) : Agree env2 env L := ⟨h.len.symm, fun t ht => (h.get t ht).symm⟩

theorem disj_not {a b : List Tmp} (h : disj a b = true) {x : Tmp} (hx : x ∈ a) : x ∉ b := by
  unfold disj at h
  have := List.all_eq_true.1 h x hx
  simpa using this

/-- 'x' before 'y' in the text, exchangeable: 'y' may be carried out first. -/
theorem swapO {stepX stepY : Env × St → Option (Env × St)} {Rx Wx Ry Wy : List Tmp} {kx ky : HC} {nx ny : Nat} {e1 e2 : Env} {s1 s2 : St}
    (d1 : disj Wx Ry = true) (d2 : disj Wx Wy = true) (d3 : disj Wy Rx = true) (hk : HC.ok kx ky = true)
    (hx : StepSpec stepX Rx Wx kx nx env σ e1 s1) (hy : StepSpec stepY Ry Wy ky ny e1 s1 e2 s2) :
    ∃ m, stepY (env, σ) = some m ∧ stepX m = some (e2, s2) := by
  obtain ⟨ux, hux, rfl, hx⟩ := hx
  obtain ⟨uy, huy, rfl, hy⟩ := hy
  have A1 : Agree (applyU ux env) env (Ry ++ Wy) := agree_after fun p hp hm => by
    rcases List.mem_append.1 hm with h | h
    · exact disj_not d1 (hux p hp) h
    · exact disj_not d2 (hux p hp) h
  have A2 : Agree env (applyU uy env) (Rx ++ Wx) := (agree_after fun p hp hm => by
    rcases List.mem_append.1 hm with h | h
    · exact disj_not d3 (huy p hp) h
    · exact disj_not d2 h (huy p hp)).symm
  have hcm : applyU uy (applyU ux env) = applyU ux (applyU uy env) := (applyU_comm fun p hp q hq e => disj_not d2 (hux p hp) (e ▸ huy q hq)).symm
  rw [hcm]
  rcases hx with ⟨rfl, hx⟩ | ⟨rfl, ob, hob, hn, rfl, hx⟩ | ⟨hkx, hx⟩
  · rcases hy with ⟨rfl, hy⟩ | ⟨rfl, ob, hob, hn, rfl, hy⟩ | ⟨hky, hy⟩
    · refine ⟨_, hy env s2 A1 (by cases ky <;> simp [DomOk, Sup.refl, SupC.refl]), hx _ _ A2 (by cases kx <;> simp [DomOk, Sup.refl, SupC.refl])⟩
    · refine ⟨_, hy env s1 A1 hn, hx _ _ A2 ?_⟩
      cases kx <;> simp [DomOk, HC.ok] at hk ⊢
      · exact Sup.set hn
      · exact (Sup.set hn).supC
    · refine ⟨_, hy env A1, hx _ _ A2 ?_⟩
      rcases hky with rfl | ⟨rfl, hsup⟩ | ⟨rfl, hsup⟩
      · cases kx <;> simp [DomOk, HC.ok] at hk ⊢
      · cases kx <;> simp [DomOk, HC.ok] at hk ⊢
        · exact hsup
        · exact hsup.supC
      · cases kx <;> simp [DomOk, HC.ok] at hk ⊢
        exact hsup
  · rcases hy with ⟨rfl, hy⟩ | ⟨rfl, ob', hob', hn', rfl, hy⟩ | ⟨hky, hy⟩
    · refine ⟨_, hy env σ A1 ?_, hx _ _ A2 hn⟩
      cases ky <;> simp [DomOk, HC.ok] at hk ⊢
    · have hne : nx ≠ ny := by
        intro e; subst e
        rw [List.getElem?_set_self (List.getElem?_eq_some_iff.1 hn).1] at hn'
        cases hn'; exact hob rfl
      have hn2 : σ[ny]? = some Ob.none := by rwa [List.getElem?_set_ne hne] at hn'
      refine ⟨_, hy env σ A1 hn2, ?_⟩
      rw [hx _ _ A2 (by rw [List.getElem?_set_ne hne.symm]; exact hn), List.set_comm _ _ hne]
    · rcases hky with rfl | ⟨rfl, _⟩ | ⟨rfl, _⟩ <;> simp [HC.ok] at hk
  · rcases hy with ⟨rfl, hy⟩ | ⟨rfl, ob', hob', hn', rfl, hy⟩ | ⟨hky, hy⟩
    · refine ⟨_, hy env σ A1 ?_, hx _ A2⟩
      rcases hkx with rfl | ⟨rfl, _⟩ | ⟨rfl, _⟩ <;> (cases ky <;> simp [DomOk, HC.ok] at hk ⊢)
    · rcases hkx with rfl | ⟨rfl, _⟩ | ⟨rfl, _⟩ <;> simp [HC.ok] at hk
    · rcases hkx with rfl | ⟨rfl, _⟩ | ⟨rfl, _⟩ <;> rcases hky with rfl | ⟨rfl, _⟩ | ⟨rfl, _⟩ <;> simp [HC.ok] at hk

theorem swapI (hp : ∀ f args σ base r σ', pure f = true → C f args σ base = some (r, σ') → σ' = σ) (hg : ∀ f args σ base r σ', grow f = true → C f args σ base = some (r, σ') → Sup σ σ') {n0 i a : Nat} {x y : Oper} {s s1 s2 : Env × St}
    (hx : ops[i]? = some x) (hy : ops[a]? = some y) (hi : indep P pure grow isv bs ops x y = true)
    (h1 : stepA P C base isv bs ops n0 i s = some s1) (h2 : stepA P C base isv bs ops n0 a s1 = some s2) :
    ∃ m, stepA P C base isv bs ops n0 a s = some m ∧ stepA P C base isv bs ops n0 i m = some s2 := by
  unfold indep at hi
  simp only [Bool.and_eq_true] at hi
  obtain ⟨⟨⟨d1, d2⟩, d3⟩, hk⟩ := hi
  rw [stepA_stepO hx] at h1
  rw [stepA_stepO hy] at h2
  obtain ⟨m, h3, h4⟩ := swapO d1 d2 d3 hk (step_spec (pure := pure) (grow := grow) hp hg (env := s.1) (σ := s.2) (env' := s1.1) (σ' := s1.2) h1) (step_spec (pure := pure) (grow := grow) hp hg (env := s1.1) (σ := s1.2) (env' := s2.1) (σ' := s2.2) h2)
  exact ⟨m, by rw [stepA_stepO hy]; exact h3, by rw [stepA_stepO hx]; exact h4⟩

end
end Go.Can

namespace Go.Can
open Go Go.RowKit
section
variable {P : Program} {Q : Exit → Act → World → Prop} {ops : Array Oper}

theorem runA_append {step : Nat → S → Option S} : ∀ {xs ys : List Nat} {s : S}, runA step (xs ++ ys) s = match runA step xs s with
    | some m => runA step ys m
    | none => none
  | [], _, _ => rfl
  | x :: xs, ys, s => by
    simp only [List.cons_append, runA]
    cases step x s with
    | none => rfl
    | some m => exact runA_append

theorem runA_front {step : Nat → S → Option S} {j : Nat} : ∀ {pre post : List Nat} {s s' : S}, (∀ i ∈ pre, ∀ s s1 s2, step i s = some s1 → step j s1 = some s2 → ∃ m, step j s = some m ∧ step i m = some s2) →
    runA step (pre ++ j :: post) s = some s' → ∃ m, step j s = some m ∧ runA step (pre ++ post) m = some s'
  | [], post, s, s', _, h => by
    simp only [List.nil_append, runA] at h ⊢
    cases hj : step j s with
    | none => rw [hj] at h; cases h
    | some m => rw [hj] at h; exact ⟨m, rfl, h⟩
  | i :: pre, post, s, s', hs, h => by
    simp only [List.cons_append, runA] at h
    cases hi : step i s with
    | none => rw [hi] at h; cases h
    | some s1 =>
      rw [hi] at h
      obtain ⟨m, h1, h2⟩ := runA_front (pre := pre) (fun k hk => hs k (by simp [hk])) h
      obtain ⟨m', h3, h4⟩ := hs i (by simp) s s1 m hi h1
      exact ⟨m', h3, by simp only [List.cons_append, runA, h4]; exact h2⟩

def openL (listed : Array Bool) (n : Nat) : List Nat := (List.range n).filter fun i => !listed.getD i true

theorem mem_openL {listed : Array Bool} {n i : Nat} : i ∈ openL listed n ↔ i < n ∧ listed.getD i true = false := by
  unfold openL; rw [List.mem_filter, List.mem_range]; simp

theorem openL_split {listed : Array Bool} {n j : Nat} (hn : listed.size = n) (hj : j ∈ openL listed n) :
    ∃ pre post, openL listed n = pre ++ j :: post ∧ openL (listed.setIfInBounds j true) n = pre ++ post ∧ ∀ i ∈ pre, i < j ∧ i ∈ openL listed n := by
  obtain ⟨hjn, hjo⟩ := mem_openL.1 hj
  have e : List.range n = List.range j ++ j :: (List.range' (j + 1) (n - j - 1)) := by
    rw [List.range_eq_range', List.range_eq_range']
    have : n = j + (1 + (n - j - 1)) := by omega
    conv => lhs; rw [this]
    rw [← List.range'_append, ← List.range'_append]
    simp [List.range']
  have hset : ∀ i, i ≠ j → (listed.setIfInBounds j true).getD i true = listed.getD i true := fun i hi => getD_set_ne true (Ne.symm hi)
  refine ⟨(List.range j).filter fun i => !listed.getD i true, (List.range' (j + 1) (n - j - 1)).filter fun i => !listed.getD i true, ?_, ?_, fun i hi => ?_⟩
  · unfold openL; rw [e, List.filter_append, List.filter_cons_of_pos (by rw [hjo]; rfl)]
  · unfold openL
    rw [e, List.filter_append, List.filter_cons_of_neg]
    · congr 1
      · exact List.filter_congr fun i hi => by rw [hset i (by have := List.mem_range.1 hi; omega)]
      · exact List.filter_congr fun i hi => by rw [hset i (by have := List.mem_range'_1.1 hi; omega)]
    · have : j < listed.size := by omega
      simp [Array.getD_eq_getD_getElem?, this]
  · obtain ⟨h1, h2⟩ := List.mem_filter.1 hi
    have h3 := List.mem_range.1 h1
    exact ⟨h3, mem_openL.2 ⟨by omega, by simpa using h2⟩⟩

/-- What 'regionOk' says, unfolded. -/
structure OrdOk (ops : Array Oper) (ind : Nat → Nat → Prop) : Prop where
  back : ∀ j y, ops[j]? = some y → ∀ e ∈ y.after.toList, Region.binds .any e = true → e.on < j
  pair : ∀ i j y, ops[j]? = some y → i < j → (∃ e ∈ y.after.toList, Region.binds .any e = true ∧ (e.on = i ∨ (i < e.on ∧ ((Region.before ops).getD e.on 0).testBit i = true))) ∨ ((Region.before ops).getD j 0).testBit i = false ∧ ind i j
  bits : ∀ i j y, ops[j]? = some y → i < j → ((Region.before ops).getD j 0).testBit i = true → ∃ e ∈ y.after.toList, Region.binds .any e = true ∧ (e.on = i ∨ (i < e.on ∧ ((Region.before ops).getD e.on 0).testBit i = true))

theorem regionOk_spec {pure grow : FuncId → Bool} {isv : Tmp → Bool} {bs : Tmp → Option Tmp} (h : regionOk P pure grow isv bs ops = true) :
    OrdOk ops (fun i j => ∀ x y, ops[i]? = some x → ops[j]? = some y → indep P pure grow isv bs ops.toList x y = true) := by
  unfold regionOk at h
  rw [List.all_eq_true] at h
  have main : ∀ j y, ops[j]? = some y → (y.after.toList.all fun e => !Region.binds .any e || decide (e.on < j)) = true ∧ ∀ i, i < j → ∀ x, ops[i]? = some x →
      (if ((Region.before ops).getD j 0).testBit i then y.after.toList.any fun e => Region.binds .any e && (e.on == i || (decide (i < e.on) && ((Region.before ops).getD e.on 0).testBit i)) else indep P pure grow isv bs ops.toList x y) = true := by
    intro j y hy
    have h1 := h j (List.mem_range.2 (Array.getElem?_eq_some_iff.1 hy).1)
    simp only [hy, Bool.and_eq_true] at h1
    refine ⟨h1.1, fun i hi x hx => ?_⟩
    have h2 := List.all_eq_true.1 h1.2 i (List.mem_range.2 hi)
    simpa only [hx] using h2
  have bits : ∀ i j y, ops[j]? = some y → i < j → ((Region.before ops).getD j 0).testBit i = true → ∃ e ∈ y.after.toList, Region.binds .any e = true ∧ (e.on = i ∨ (i < e.on ∧ ((Region.before ops).getD e.on 0).testBit i = true)) := by
    intro i j y hy hi hb
    have hlt : i < ops.size := Nat.lt_trans hi (Array.getElem?_eq_some_iff.1 hy).1
    have h1 := (main j y hy).2 i hi ops[i] (Array.getElem?_eq_getElem hlt)
    rw [if_pos hb, List.any_eq_true] at h1
    obtain ⟨e, he, h2⟩ := h1
    simp only [Bool.and_eq_true, Bool.or_eq_true, beq_iff_eq, decide_eq_true_eq] at h2
    exact ⟨e, he, h2⟩
  refine ⟨fun j y hy e he hb => ?_, fun i j y hy hi => ?_, bits⟩
  · have h1 := List.all_eq_true.1 (main j y hy).1 e he
    rw [hb] at h1
    simpa using h1
  · cases hb : ((Region.before ops).getD j 0).testBit i with
    | true => exact .inl (bits i j y hy hi hb)
    | false =>
      right
      refine ⟨rfl, fun x y' hx hy' => ?_⟩
      have e : y' = y := Option.some.inj (hy'.symm.trans hy)
      rw [e]
      have := (main j y hy).2 i hi x hx
      rw [hb] at this
      simpa using this

theorem any_sound {ind : Nat → Nat → Prop} (ho : OrdOk ops ind) {step : Nat → S → Option S} {Rel : S → Act → World → Prop}
    (hstep : ∀ j s m a w (K : Act → World → Prop), Rel s a w → step j s = some m → (∀ a' w', Rel m a' w' → K a' w') → wpOp P ops Q j K a w)
    (hswap : ∀ i j, i < j → ind i j → ∀ s s1 s2, step i s = some s1 → step j s1 = some s2 → ∃ m, step j s = some m ∧ step i m = some s2) {s' : S}
    (hQ : ∀ a w, Rel s' a w → Q .normal a w) :
    ∀ (fuel : Nat) (listed : Array Bool) (s : S) (a : Act) (w : World), listed.size = ops.size →
      (∀ k, k < ops.size → listed.getD k true = true → ∀ i, i < k → ((Region.before ops).getD k 0).testBit i = true → listed.getD i true = true) →
      (openL listed ops.size).length ≤ fuel → runA step (openL listed ops.size) s = some s' → Rel s a w → wpAny P .any ops Q fuel listed a w := by
  have getDD : ∀ {listed : Array Bool} {i : Nat}, listed.size = ops.size → i < ops.size → listed.getD i false = listed.getD i true := fun {listed i} h1 h2 => by
    simp [Array.getD_eq_getD_getElem?, h1, h2]
  have hlast : ∀ (listed : Array Bool) (s : S) (a : Act) (w : World), listed.size = ops.size → Region.ready .any ops listed = [] → runA step (openL listed ops.size) s = some s' → Rel s a w → Q .normal a w := by
    intro listed s a w hsz hr hrun hrel
    cases hol : openL listed ops.size with
    | nil => rw [hol] at hrun; cases hrun; exact hQ a w hrel
    | cons j rest =>
      exfalso
      have hj : j ∈ openL listed ops.size := by rw [hol]; simp
      obtain ⟨hjn, hjo⟩ := mem_openL.1 hj
      have hmin : ∀ i ∈ openL listed ops.size, j ≤ i := by
        obtain ⟨pre, post, e1, _, e3⟩ := openL_split hsz hj
        have hp : pre = [] := by
          cases pre with
          | nil => rfl
          | cons p pre =>
            have := e3 p (by simp)
            rw [hol] at e1
            simp at e1
            omega
        have hsorted : (openL listed ops.size).Pairwise (· < ·) := List.Pairwise.filter _ (List.pairwise_lt_range)
        intro i hi
        rw [hol] at hi hsorted
        rcases List.mem_cons.1 hi with h | h
        · omega
        · have := (List.pairwise_cons.1 hsorted).1 i h; omega
      have : j ∈ Region.ready .any ops listed := by
        rw [mem_ready]
        refine ⟨hjo, ops[j], Array.getElem?_eq_getElem hjn, fun e he hb => ?_⟩
        have hlt := ho.back j _ (Array.getElem?_eq_getElem hjn) e (Array.mem_toList_iff.2 he) hb
        rw [getDD hsz (by omega)]
        cases hl : listed.getD e.on true with
        | true => rfl
        | false => have := hmin e.on (mem_openL.2 ⟨by omega, hl⟩); omega
      rw [hr] at this; cases this
  intro fuel
  induction fuel with
  | zero =>
    intro listed s a w hsz hdn hlen hrun hrel
    have hnil : openL listed ops.size = [] := List.eq_nil_of_length_eq_zero (by omega)
    refine ⟨?_, ?_⟩
    · cases hr : Region.ready .any ops listed with
      | nil => rfl
      | cons j rest =>
        exfalso
        have hj : j ∈ Region.ready .any ops listed := by rw [hr]; simp
        obtain ⟨h1, o, h2, _⟩ := mem_ready.1 hj
        have := mem_openL.2 ⟨(Array.getElem?_eq_some_iff.1 h2).1, h1⟩
        rw [hnil] at this; cases this
    · rw [hnil] at hrun; cases hrun; exact hQ a w hrel
  | succ fuel ih =>
    intro listed s a w hsz hdn hlen hrun hrel
    refine ⟨fun hr => hlast listed s a w hsz hr hrun hrel, fun j hj => ?_⟩
    obtain ⟨h1, o, h2, h3⟩ := mem_ready.1 hj
    have hjn : j < ops.size := (Array.getElem?_eq_some_iff.1 h2).1
    have hjo : j ∈ openL listed ops.size := mem_openL.2 ⟨hjn, h1⟩
    obtain ⟨pre, post, e1, e2, e3⟩ := openL_split hsz hjo
    have hback : ∀ i, i < j → (∃ e ∈ o.after.toList, Region.binds .any e = true ∧ (e.on = i ∨ (i < e.on ∧ ((Region.before ops).getD e.on 0).testBit i = true))) → listed.getD i true = true := by
      rintro i hi ⟨e, he, hb, hor⟩
      have hlt := ho.back j o h2 e he hb
      have hl := h3 e (Array.mem_toList_iff.1 he) hb
      rw [getDD hsz (by omega)] at hl
      rcases hor with rfl | ⟨h4, h5⟩
      · exact hl
      · exact hdn e.on (by omega) hl i h4 h5
    have hfront := runA_front (step := step) (j := j) (pre := pre) (post := post) (s := s) (s' := s') (fun i hi => by
      obtain ⟨hij, hio⟩ := e3 i hi
      rcases ho.pair i j o h2 hij with h4 | ⟨_, h4⟩
      · have h5 := hback i hij h4
        have h6 := (mem_openL.1 hio).2
        rw [h5] at h6; cases h6
      · exact hswap i j hij h4) (by rw [← e1]; exact hrun)
    obtain ⟨m, h4, h5⟩ := hfront
    refine hstep j s m a w _ hrel h4 fun a' w' hr' => ?_
    refine ih _ m a' w' (by simp [hsz]) (fun k hk hl i hi hb => ?_) ?_ (by rw [e2]; exact h5) hr'
    · by_cases hkj : k = j
      · subst hkj
        have := hback i hi (ho.bits i k o h2 hi hb)
        rw [getD_set_ne true (by omega)]; exact this
      · rw [getD_set_ne true (Ne.symm hkj)] at hl
        have := hdn k hk hl i hi hb
        by_cases hij : i = j
        · subst hij; rw [h1] at this; cases this
        · rw [getD_set_ne true (Ne.symm hij)]; exact this
    · rw [e1] at hlen; rw [e2]; simp at hlen ⊢; omega

/-- The region, its order drawn. -/
theorem draw_sound {ind : Nat → Nat → Prop} (ho : OrdOk ops ind) {step : Nat → S → Option S} {Rel : S → Act → World → Prop}
    (hstep : ∀ j s m a w (K : Act → World → Prop), Rel s a w → step j s = some m → (∀ a' w', Rel m a' w' → K a' w') → wpOp P ops Q j K a w)
    (hswap : ∀ i j, i < j → ind i j → ∀ s s1 s2, step i s = some s1 → step j s1 = some s2 → ∃ m, step j s = some m ∧ step i m = some s2) {s s' : S}
    (hQ : ∀ a w, Rel s' a w → Q .normal a w) {a : Act} {w : World} (hrun : runA step (List.range ops.size) s = some s') (hrel : Rel s a w) :
    wpAny P .any ops Q ops.size (Array.replicate ops.size false) a w := by
  have hol : openL (Array.replicate ops.size false) ops.size = List.range ops.size := by
    unfold openL
    rw [List.filter_eq_self]
    intro i hi
    have := List.mem_range.1 hi
    simp [Array.getD_eq_getD_getElem?, this]
  refine any_sound ho hstep hswap hQ ops.size _ s a w (by simp) (fun k hk hl => ?_) (by rw [hol]; simp) (by rw [hol]; exact hrun) hrel
  simp [Array.getD_eq_getD_getElem?, hk] at hl

/-- The region in the text's order. -/
theorem text_sound {step : Nat → S → Option S} {Rel : S → Act → World → Prop}
    (hstep : ∀ j s m a w (K : Act → World → Prop), Rel s a w → step j s = some m → (∀ a' w', Rel m a' w' → K a' w') → wpOp P ops Q j K a w) {s' : S}
    (hQ : ∀ a w, Rel s' a w → Q .normal a w) : ∀ {l : List Nat} {s : S} {a : Act} {w : World}, runA step l s = some s' → Rel s a w → wpOps P ops Q l a w
  | [], s, a, w, hrun, hrel => by cases hrun; exact hQ a w hrel
  | i :: l, s, a, w, hrun, hrel => by
    rw [wpOps_cons]
    simp only [runA] at hrun
    cases hi : step i s with
    | none => rw [hi] at hrun; cases hrun
    | some m =>
      rw [hi] at hrun
      exact hstep i s m a w _ hrel hi fun a' w' hr' => text_sound hstep hQ hrun hr'

end
end Go.Can
