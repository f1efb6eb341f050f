/- The operations, one by one: what the evaluator says of an operation, the model does. First part. -/
import Derived.Test.YtgcfhcgnkohfkaaCanC
set_option linter.unusedSimpArgs false
set_option linter.unusedVariables false
namespace Go.Can
open Go

/-- An operation that the evaluator takes to (env', σ', sl) is carried out by the model, and the relation stands behind it. -/
def OpS (P : Program) (w : World) (M : Mem) (θ : Th) (σ : St) (π : Nat → Option Nat) (o : Oper) (a : Act) (env' : Env) (σ' : St) (sl : Slot) : Prop :=
  ∀ (K : Act → World → Prop) (Q : Exit → Act → World → Prop),
    (∀ u w' M' θ' π', Ext w M θ σ π w' M' θ' σ' π' → StR w' M' θ' σ' → FrR w' M' θ' σ' π' (putA env' o.dst sl) (a.put o.dst u).tmps → K (a.put o.dst u) w') → o.wp P a w K Q

section
variable {P : Program} {w : World} {M : Mem} {θ : Th} {σ : St} {π : Nat → Option Nat} {env : Env} {o : Oper} {a : Act}

theorem OpS.val {env' : Env} {σ' : St} {sl : Slot} {u : Value} {w' : World} {M' : Mem} {θ' : Th} {π' : Nat → Option Nat} (hr : (execOp a.eval o).run P w = .ok (.value u) w')
    (he : Ext w M θ σ π w' M' θ' σ' π') (hs : StR w' M' θ' σ') (hf : FrR w' M' θ' σ' π' (putA env' o.dst sl) (a.put o.dst u).tmps) : OpS P w M θ σ π o a env' σ' sl := by
  intro K Q h
  unfold Oper.wp
  rw [hr]
  exact h u w' M' θ' π' he hs hf

theorem OpS.skip {env' : Env} {σ' : St} {sl : Slot} {w' : World} {M' : Mem} {θ' : Th} {π' : Nat → Option Nat} (hr : (execOp a.eval o).run P w = .ok .skip w')
    (he : Ext w M θ σ π w' M' θ' σ' π') (hs : StR w' M' θ' σ') (hf : FrR w' M' θ' σ' π' (putA env' o.dst sl) (a.put o.dst undef).tmps) : OpS P w M θ σ π o a env' σ' sl := by
  intro K Q h
  unfold Oper.wp
  rw [hr]
  exact h undef w' M' θ' π' he hs hf

/-- The world is not touched. -/
theorem OpS.same {sl : Slot} {u : Value} (hs : StR w M θ σ) (hf : FrR w M θ σ π env a.tmps) (hd : okDst env o.dst = true) (hr : (execOp a.eval o).run P w = .ok (.value u) w)
    (hn : ∀ cs, sl ≠ .var cs) (hu : ∀ s, SlotR w M θ π s sl u) : OpS P w M θ σ π o a env σ sl :=
  .val hr (Ext.refl _ _ _ _ _) hs (hf.put o.dst hd hn hu)

theorem OpS.sameV {v : AV} {u : Value} (hs : StR w M θ σ) (hf : FrR w M θ σ π env a.tmps) (hd : okDst env o.dst = true) (hr : (execOp a.eval o).run P w = .ok (.value u) w)
    (hu : Rep M θ v u) : OpS P w M θ σ π o a env σ (.val v) := .same hs hf hd hr (by simp) (fun _ => hu)

/-- The small heap goes on, no variable is touched. -/
theorem OpS.goV {σ' : St} {v : AV} {u : Value} {w' : World} {M' : Mem} {θ' : Th} (hf : FrR w M θ σ π env a.tmps) (hd : okDst env o.dst = true) (hr : (execOp a.eval o).run P w = .ok (.value u) w')
    (he : Ext0 w M θ σ w' M' θ' σ') (hs : StR w' M' θ' σ') (hu : Rep M' θ' v u) : OpS P w M θ σ π o a env σ' (.val v) :=
  .val hr (he.lift π) hs ((hf.ext he).putV o.dst hd hu)

theorem OpS.goU {σ' : St} {w' : World} {M' : Mem} {θ' : Th} (hf : FrR w M θ σ π env a.tmps) (hd : okDst env o.dst = true) (hr : (execOp a.eval o).run P w = .ok .skip w')
    (he : Ext0 w M θ σ w' M' θ' σ') (hs : StR w' M' θ' σ') : OpS P w M θ σ π o a env σ' .und :=
  .skip hr (he.lift π) hs ((hf.ext he).put o.dst hd (by simp) (fun _ => rfl))

theorem SlotR.any {s t : Nat} {sl : Slot} {u : Value} (hn : ∀ cs, sl ≠ .var cs) (h : SlotR w M θ π s sl u) : SlotR w M θ π t sl u := by
  cases sl with
  | var cs => exact (hn cs rfl).elim
  | val v => exact h
  | plc t off => exact h
  | und => exact h
  | top => exact h

theorem op_move {x : Operand} (hs : StR w M θ σ) (hf : FrR w M θ σ π env a.tmps) (hd : okDst env o.dst = true) (ho : o.op = .move x ∨ o.op = .assign x) : OpS P w M θ σ π o a env σ (look env x) := by
  have h := look_sound hf x
  refine .same (u := a.eval x) hs hf hd ?_ h.2 (fun s => h.1.any h.2)
  rcases ho with ho | ho <;> simp [execOp, ho]

theorem op_pick {c x y : Operand} {t : Bool} {v : AV} (hs : StR w M θ σ) (hf : FrR w M θ σ π env a.tmps) (hd : okDst env o.dst = true) (ho : o.op = .pick c x y)
    (hc : lookV env c = some (.bool t)) (hv : lookV env (if t then x else y) = some v) : OpS P w M θ σ π o a env σ (.val v) := by
  have h1 := (lookV_sound hf hc).rep
  have h2 := (lookV_sound hf hv).rep
  have e1 : a.eval c = .bool t := h1.bool
  refine .sameV (u := a.eval (if t then x else y)) hs hf hd ?_ h2
  cases t <;> simp [execOp, ho, asBool, e1]

theorem op_unOp {op : UnOp} {t : TypeId} {x : Operand} {v r : AV} (hs : StR w M θ σ) (hf : FrR w M θ σ π env a.tmps) (hd : okDst env o.dst = true) (ho : o.op = .unOp op t x)
    (hx : lookV env x = some v) (hr : unA op v = some r) : OpS P w M θ σ π o a env σ (.val r) := by
  have h1 := (lookV_sound hf hx).rep
  unfold unA at hr
  split at hr
  · rename_i k n
    have e1 : a.eval x = .int k n := h1.int
    split at hr
    · cases hr
      exact .sameV (u := .int k (k.wrap (0 - n))) hs hf hd (by simp [execOp, ho, e1, Op.unary, Op.intArith]) (Cell.int _ _).rep
    · cases hr
  · rename_i b
    have e1 : a.eval x = .bool b := h1.bool
    split at hr
    · cases hr
      exact .sameV (u := .bool !b) hs hf hd (by simp [execOp, ho, e1, Op.unary]) (Cell.bool _).rep
    · cases hr
  · cases hr

theorem op_convert {t d : TypeId} {x : Operand} {k k' : IntKind} {n : Int} (hs : StR w M θ σ) (hf : FrR w M θ σ π env a.tmps) (hd : okDst env o.dst = true) (ho : o.op = .convert t d x)
    (hu : P.underlying d = some (.int k)) (ht : ∃ q, P.underlying t = some (.int q)) (hx : lookV env x = some (.int k' n)) : OpS P w M θ σ π o a env σ (.val (.int k (k.wrap n))) := by
  have h1 := (lookV_sound hf hx).rep
  have e1 : a.eval x = .int k' n := h1.int
  obtain ⟨q, hq⟩ := ht
  exact .sameV (u := .int k (k.wrap n)) hs hf hd (by simp [execOp, ho, e1, convert, run_underlying hu, run_underlying hq, Conv.intToInt]) (Cell.int _ _).rep

theorem op_extract {x : Operand} {i : Nat} {vs : List AV} {v : AV} (hs : StR w M θ σ) (hf : FrR w M θ σ π env a.tmps) (hd : okDst env o.dst = true) (ho : o.op = .extract x i)
    (hx : look env x = .val (.tup vs)) (hi : vs[i]? = some v) : OpS P w M θ σ π o a env σ (.val v) := by
  have h0 := (look_sound hf x).1
  rw [hx] at h0
  obtain ⟨us, e1, h2, h3⟩ := Rep.tup h0
  have hlt : i < us.size := by have := (List.getElem?_eq_some_iff.1 hi).1; omega
  have hu := h3 i v hi
  have e2 : us[i]? = some (us.getD i undef) := by simp [Array.getD_eq_getD_getElem?, hlt]
  exact .sameV (u := us.getD i undef) hs hf hd (by simp only [execOp, ho, e1, Instr.extract, e2]; simp) hu.rep

/-! Comparisons. -/

theorem basicT_agg {t : TypeId} (h : basicT P t = true) : (isAgg t).run P w = .ok false w := by
  unfold basicT at h
  unfold isAgg
  split at h
  · rename_i e; rw [Sem.run_bind, run_underlying e]; rfl
  · rename_i k e; rw [Sem.run_bind, run_underlying e]; rfl
  · rename_i e; rw [Sem.run_bind, run_underlying e]; rfl
  · cases h

theorem cellEq_run {d : Nat} {t : TypeId} {x y : AV} {u v : Value} {b : Bool} (h : cellEq x y = some b) (hx : Cell M θ x u) (hy : Cell M θ y v) (ht : cellOk P t x = true) :
    (Op.equalIn (d + 1) t u v).run P w = .ok b w := by
  unfold cellEq at h
  split at h
  · rename_i k n k' n'
    cases hx; cases hy
    split at h
    · rename_i e; cases h; subst e
      simp only [cellOk] at ht
      split at ht
      · rename_i q hq; exact run_equalIn_int w d t k q n n' hq
      · cases ht
    · cases h
  · cases hx; cases hy; cases h
    simp only [cellOk] at ht
    split at ht
    · rename_i hq; exact run_equalIn_bool w d t _ _ hq
    · cases ht
  · cases hx; cases hy; cases h
    simp only [cellOk] at ht
    split at ht
    · rename_i hq; exact run_equalIn_string w d t _ _ hq
    · cases ht
  · cases h

theorem eqFields_run {d : Nat} {cx cy : List AV} {xs ys : Array Value} (hx : CellsR M θ cx xs) (hy : CellsR M θ cy ys) {b : Bool} : ∀ (fs : List Field) (i : Nat), flatFs P fs i = true → cellsOk P fs (cx.drop i) = true →
    cellsEq (cx.drop i) (cy.drop i) = some b → (Op.eqFields (d + 1) xs ys fs).run P w = .ok b w
  | [], i, _, h2, h3 => by
    cases e : cx.drop i with
    | nil =>
      rw [e] at h3
      cases e' : cy.drop i with
      | nil => rw [e'] at h3; simp only [cellsEq] at h3; cases h3; simp [Op.eqFields]
      | cons c cs => rw [e'] at h3; simp [cellsEq] at h3
    | cons c cs => rw [e] at h2; simp [cellsOk] at h2
  | f :: fs, i, h1, h2, h3 => by
    simp only [flatFs, Bool.and_eq_true, bne_iff_ne, beq_iff_eq] at h1
    obtain ⟨⟨⟨⟨hb, ho⟩, hn⟩, _⟩, h1⟩ := h1
    cases e : cx.drop i with
    | nil => rw [e] at h2; simp [cellsOk] at h2
    | cons c cs =>
      cases e' : cy.drop i with
      | nil => rw [e, e'] at h3; simp [cellsEq] at h3
      | cons c' cs' =>
        have d1 : cx.drop (i + 1) = cs := by rw [← List.drop_drop, e]; rfl
        have d2 : cy.drop (i + 1) = cs' := by rw [← List.drop_drop, e']; rfl
        have g1 : cx[i]? = some c := by rw [← List.head?_drop, e]; rfl
        have g2 : cy[i]? = some c' := by rw [← List.head?_drop, e']; rfl
        have l1 : i < xs.size := by rw [hx.1]; exact (List.getElem?_eq_some_iff.1 g1).1
        have l2 : i < ys.size := by rw [hy.1]; exact (List.getElem?_eq_some_iff.1 g2).1
        rw [e] at h2; simp only [cellsOk, Bool.and_eq_true] at h2
        rw [e, e'] at h3; simp only [cellsEq] at h3
        have p1 : (Go.part f.type xs f.offset).run P w = .ok (xs.getD i undef) w := by
          have q : xs[i]? = some (xs.getD i undef) := by simp [Array.getD_eq_getD_getElem?, l1]
          simp only [Go.part, Sem.run_bind, basicT_agg hb, Result.andThen_ok, ho, q]; simp
        have p2 : (Go.part f.type ys f.offset).run P w = .ok (ys.getD i undef) w := by
          have q : ys[i]? = some (ys.getD i undef) := by simp [Array.getD_eq_getD_getElem?, l2]
          simp only [Go.part, Sem.run_bind, basicT_agg hb, Result.andThen_ok, ho, q]; simp
        unfold Op.eqFields
        rw [if_pos hn]
        cases ec : cellEq c c' with
        | none => rw [ec] at h3; cases h3
        | some r =>
          have r1 := cellEq_run (P := P) (w := w) (d := d) ec (hx.2 i c g1) (hy.2 i c' g2) h2.1
          rw [ec] at h3
          simp only [Sem.run_bind, p1, p2, r1, Result.andThen_ok]
          cases r with
          | false => cases h3; simp
          | true =>
            simp only [Bool.not_true, Bool.false_eq_true, if_false]
            exact eqFields_run hx hy fs (i + 1) h1 (by rw [d1]; exact h2.2) (by rw [d1, d2]; exact h3)

theorem flatT_spec {t : TypeId} (h : flatT P t = true) : ∃ fs, P.underlying t = some (.struct fs) ∧ flatFs P fs.toList 0 = true ∧ szOf P t = some fs.size ∧ P.stoodInHeld t = false ∧ P.eqGuardType P.depth t = false := by
  unfold flatT at h
  split at h
  · rename_i fs hfs
    simp only [Bool.and_eq_true, beq_iff_eq, Bool.not_eq_true'] at h
    exact ⟨fs, hfs, h.1.1.1, h.1.1.2, h.1.2, h.2⟩
  · cases h

theorem keyEq_run {d : Nat} {t : TypeId} {x y : AV} {u v : Value} {b : Bool} (h : keyEq x y = some b) (hx : RepA M θ x u) (hy : RepA M θ y v) (ht : keyOk P t x = true) :
    (Op.equalIn (d + 2) t u v).run P w = .ok b w := by
  unfold keyEq at h
  split at h
  · rename_i cx cy
    obtain ⟨xs, rfl, h1⟩ := hx
    obtain ⟨ys, rfl, h2⟩ := hy
    simp only [keyOk] at ht
    split at ht
    · rename_i fs hfs
      simp only [Bool.and_eq_true] at ht
      obtain ⟨fs', hfs', f1, _, f3, _⟩ := flatT_spec ht.1
      rw [hfs] at hfs'; cases hfs'
      have hf : P.fieldsOf t = fs := by simp [Program.fieldsOf, hfs]
      rw [run_equalIn_struct w (d + 1) t xs ys (by rw [hf]; exact hfs) f3, hf]
      exact eqFields_run h1 h2 fs.toList 0 f1 (by simpa using ht.2) (by simpa using h)
    · cases ht
  · have a1 : ∀ cs, x ≠ .agg cs := fun cs e => by subst e; simp [cellEq] at h
    have a2 : ∀ cs, y ≠ .agg cs := fun cs e => by subst e; unfold cellEq at h; split at h <;> simp_all
    refine cellEq_run h (hx.cell a1) (hy.cell a2) ?_
    cases x <;> first | exact ht | exact absurd rfl (a1 _)
end
end Go.Can
