/- The evaluator itself: what an operation reads and writes; when two of them may be exchanged. -/
import Derived.Test.YtgcfhcgnkohfkaaCanN
set_option linter.unusedSimpArgs false
set_option linter.unusedVariables false
namespace Go.Can
open Go Go.RowKit
section
variable {P : Program} {C : CallF} {base nid : Nat} {isv : Tmp → Bool} {bs : Tmp → Option Tmp} {env env' : Env} {σ σ' : St} {o : Oper} {sl : Slot}

theorem Keep.refl (b : Nat) (σ : St) : Keep b σ σ := ⟨Nat.le_refl _, fun _ _ => rfl⟩
theorem Keep.trans {b : Nat} {σ1 σ2 σ3 : St} (h : Keep b σ1 σ2) (k : Keep b σ2 σ3) : Keep b σ1 σ3 := ⟨Nat.le_trans h.1 k.1, fun i hi => (k.2 i hi).trans (h.2 i hi)⟩
theorem Keep.set {b id : Nat} (σ : St) (x : Ob) (h : b ≤ id) : Keep b σ (σ.set id x) := ⟨by simp, fun i hi => by rw [List.getElem?_set_ne (by omega)]⟩
theorem Keep.app {b : Nat} (σ : St) (xs : List Ob) (h : b ≤ σ.length) : Keep b σ (σ ++ xs) := ⟨by simp, fun i hi => by rw [List.getElem?_append_left (by omega)]⟩

theorem appendTo_keep {sz bytes : Nat} {s r : AV} {ys : List AV} (hb : base ≤ σ.length) (h : appendTo base σ sz bytes s ys = some (r, σ')) : Keep base σ σ' := by
  unfold appendTo at h
  (repeat' split at h) <;> first
    | (cases h; done)
    | (cases h; exact Keep.refl _ _)
    | (cases h; exact Keep.app _ _ hb)
    | (cases h; exact Keep.set _ _ (by assumption))

theorem mapDel_keep {t : TypeId} {x k : AV} (h : mapDel P base σ t x k = some σ') : Keep base σ σ' := by
  unfold mapDel at h
  (repeat' split at h) <;> first
    | (cases h; done)
    | (cases h; exact Keep.refl _ _)
    | (cases h; exact Keep.set _ _ (by assumption))

theorem mapPut_keep {t : TypeId} {x k v : AV} (h : mapPut P base σ t x k v = some σ') : Keep base σ σ' := by
  unfold mapPut at h
  (repeat' split at h) <;> first
    | (cases h; done)
    | (cases h; exact Keep.set _ _ (by assumption))

theorem builtin_keep {b : Builtin} {ts : List TypeId} {args : List AV} {r : AV} (hb : base ≤ σ.length) (h : evalBuiltin P base b ts σ args = some (r, σ')) : Keep base σ σ' := by
  unfold evalBuiltin at h
  (repeat' split at h) <;> first
    | (cases h; done)
    | (cases h; exact Keep.refl _ _)
    | exact appendTo_keep hb h
    | (cases h; exact mapDel_keep (by assumption))

theorem evalV_keep (hC : CallOk P C) (hb : base ≤ σ.length) (h : evalV P C base isv bs nid env σ o = some (σ', sl)) : Keep base σ σ' := by
  unfold evalV at h
  (repeat' split at h) <;> first
    | (cases h; done)
    | (cases h; exact Keep.refl _ _)
    | (cases h; exact Keep.set _ _ (by simp_all))
    | (cases h; exact Keep.set _ _ (by have := ‹_ ∧ _›; omega))
    | (cases h; exact mapPut_keep (by assumption))
    | (cases h; exact builtin_keep hb (by assumption))
    | (cases h; exact hC.keep _ _ _ _ _ _ hb (by assumption))

theorem evalS_keep {t : TypeId} {x y : Operand} (h : evalS P base bs env σ t x y = some (env', σ')) : Keep base σ σ' := by
  unfold evalS storeAt at h
  (repeat' split at h) <;> first
    | (cases h; done)
    | (cases h; exact Keep.refl _ _)
    | (cases h; exact Keep.set _ _ (by assumption))

theorem evalOp_keep (hC : CallOk P C) (hb : base ≤ σ.length) (h : evalOp P C base isv bs nid env σ o = some (env', σ', sl)) : Keep base σ σ' := by
  unfold evalOp at h
  (repeat' split at h) <;> first
    | (cases h; done)
    | (cases h; exact evalS_keep (by assumption))
    | (cases h; exact evalV_keep hC hb (by assumption))

/-! Congruence. -/

theorem look_congr {env2 : Env} {x : Operand} (h : ∀ t, x = .tmp t → env2[t]? = env[t]?) : look env2 x = look env x := by
  cases x with
  | tmp t => simp only [look, h t rfl]
  | _ => rfl

theorem lookV_congr {env2 : Env} {x : Operand} (h : look env2 x = look env x) : lookV env2 x = lookV env x := by simp only [lookV, h]

theorem lookVs_congr {env2 : Env} : ∀ {xs : List Operand}, (∀ x ∈ xs, look env2 x = look env x) → lookVs env2 xs = lookVs env xs
  | [], _ => rfl
  | x :: xs, h => by
    simp only [lookVs]
    rw [lookV_congr (h x (by simp)), lookVs_congr (xs := xs) (fun y hy => h y (by simp [hy]))]

theorem lookParts_congr {env2 : Env} : ∀ {xs : List (Nat × Operand)}, (∀ x ∈ xs.map (·.2), look env2 x = look env x) → lookParts env2 xs = lookParts env xs
  | [], _ => rfl
  | (k, x) :: xs, h => by
    simp only [lookParts]
    rw [lookV_congr (h x (by simp)), lookParts_congr (xs := xs) (fun y hy => h y (by simp at hy ⊢; exact .inr hy))]

theorem optN_congr {env2 : Env} {x : Option Operand} (h : ∀ y ∈ x.toArray, look env2 y = look env y) : optN env2 x = optN env x := by
  cases x with
  | none => rfl
  | some y => simp only [optN]; rw [lookV_congr (h y (by simp))]

theorem loadAt_congr {env2 : Env} {t : TypeId} {s : Slot} (h : ∀ b off, s = .plc b off → env2[b]? = env[b]?) : loadAt P env2 σ t s = loadAt P env σ t s := by
  cases s with
  | plc b off => simp only [loadAt, h b off rfl]
  | val v => cases v <;> rfl
  | _ => rfl

/-- The slots whose contents an operation looks at, beside its operands: a variable that it loads or stores. -/
def baseReads (bs : Tmp → Option Tmp) (o : Oper) : List Tmp := match o.op with
  | .load _ (.tmp t) | .store _ (.tmp t) _ => (bs t).toList
  | _ => []

theorem evalV_congr {env2 : Env} (h1 : ∀ x ∈ o.op.operands, look env2 x = look env x) (h2 : ∀ t ∈ baseReads bs o, env2[t]? = env[t]?) : evalV P C base isv bs nid env2 σ o = evalV P C base isv bs nid env σ o := by
  have lv : ∀ x ∈ o.op.operands, lookV env2 x = lookV env x := fun x hx => lookV_congr (h1 x hx)
  unfold evalV
  cases ho : o.op <;> simp only [ho, Op.operands] at h1 lv ⊢
  case move x => rw [h1 x (by simp)]
  case assign x => rw [h1 x (by simp)]
  case pick c a b =>
    rw [lv c (by simp)]
    have : ∀ t : Bool, lookV env2 (if t = true then a else b) = lookV env (if t = true then a else b) := fun t => by cases t <;> simp [lv a (by simp), lv b (by simp)]
    simp only [this]
  case box e x => rw [lv x (by simp)]
  case build t ps => rw [lookParts_congr (xs := ps.toList) (fun x hx => h1 x (by simpa using hx))]
  case buildSlice t n ps => rw [lookParts_congr (xs := ps.toList) (fun x hx => h1 x (by simpa using hx))]
  case load t x =>
    rw [h1 x (by simp)]
    by_cases hadr0 : (adrOk bs x (look env x) && ldOk isv o.dst (look env x)) = true
    · rw [if_pos hadr0, if_pos hadr0]
      have hadr := (Bool.and_eq_true _ _ ▸ hadr0 : adrOk bs x (look env x) = true ∧ _).1
      rw [loadAt_congr (env2 := env2) (env := env) (fun b off e => ?_)]
      rw [e] at hadr
      cases x with
      | tmp t' =>
        simp only [adrOk, beq_iff_eq] at hadr
        exact h2 b (by simp [baseReads, ho, hadr])
      | _ => simp [adrOk] at hadr
    · rw [if_neg hadr0, if_neg hadr0]
  case nilCheck x => rw [h1 x (by simp)]
  case binOp op t x y t' => rw [lv x (by simp), lv y (by simp)]
  case unOp op t x => rw [lv x (by simp)]
  case convert t d x => rw [lv x (by simp)]
  case makeFunc f fi ca =>
    cases f <;> simp only []
    rw [lookVs_congr (xs := fi.toList) (fun x hx => h1 x (by simp at hx ⊢; exact .inl hx)), lookVs_congr (xs := ca.toList) (fun x hx => h1 x (by simp at hx ⊢; exact .inr hx))]
  case makeMap t r =>
    cases r with
    | none => rfl
    | some x => simp only []; rw [lv x (by simp)]
  case makeSlice t l c => rw [lv l (by simp), lv c (by simp)]
  case slice t x l h m =>
    rw [lv x (by simp), optN_congr (x := l) (fun y hy => h1 y (by simp at hy ⊢; simp [hy])), optN_congr (x := h) (fun y hy => h1 y (by simp at hy ⊢; simp [hy])), optN_congr (x := m) (fun y hy => h1 y (by simp at hy ⊢; simp [hy]))]
  case fieldAddr t x f => rw [h1 x (by simp)]
  case field t x f => rw [lv x (by simp)]
  case indexAddr t x i => rw [lv x (by simp), lv i (by simp)]
  case lookup t x k ok => rw [lv x (by simp), lv k (by simp)]
  case mapUpdate t m k x => rw [lv m (by simp), lv k (by simp), lv x (by simp)]
  case extract x i => rw [h1 x (by simp)]
  case call c =>
    rw [lookVs_congr (xs := c.args.toList) (fun x hx => h1 x (by simp [Call.operands] at hx ⊢; exact .inr hx))]
    cases hc : c.callee with
    | value f => simp only []; rw [lv f (by simp [Call.operands, hc])]
    | _ => rfl
  all_goals rfl

end
end Go.Can
