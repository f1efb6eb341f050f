/- The operations: calls, and all of them together. -/
import Derived.Test.YtgcfhcgnkohfkaaCanM
set_option linter.unusedSimpArgs false
set_option linter.unusedVariables false
namespace Go.Can
open Go Go.RowKit

def ArgsR (M : Mem) (θ : Th) (args : List AV) (vs : Array Value) : Prop := vs.size = args.length ∧ ∀ i v, args[i]? = some v → RepA M θ v (vs.getD i undef)

/-- What is said of a call: it returns; what is related before is related behind. -/
def CallR (P : Program) (f : FuncId) (args : List AV) (σ : St) (r : AV) (σ' : St) : Prop :=
  (∀ w vs, (callFunc f vs).run P w = .ok (.enter f vs) w) ∧
  ∀ w M θ vs, StR w M θ σ → ArgsR M θ args vs →
    Calls P f vs w fun e w' => ∃ v M' θ', e = .returned v ∧ Ext0 w M θ σ w' M' θ' σ' ∧ StR w' M' θ' σ' ∧ Rep M' θ' r v

/-- The objects below 'base' are what they were; none has gone. -/
def Keep (base : Nat) (σ σ' : St) : Prop := σ.length ≤ σ'.length ∧ ∀ id, id < base → σ'[id]? = σ[id]?

structure CallOk (P : Program) (C : CallF) : Prop where
  sim : ∀ f args σ base r σ', base ≤ σ.length → C f args σ base = some (r, σ') → CallR P f args σ r σ'
  keep : ∀ f args σ base r σ', base ≤ σ.length → C f args σ base = some (r, σ') → Keep base σ σ'

section
variable {P : Program} {w : World} {M : Mem} {θ : Th} {σ : St} {π : Nat → Option Nat} {env : Env} {o : Oper} {a : Act}

theorem ArgsR.append {xs ys : List AV} {us vs : Array Value} (h : ArgsR M θ xs us) (k : ArgsR M θ ys vs) : ArgsR M θ (xs ++ ys) (us ++ vs) := by
  refine ⟨by simp [h.1, k.1], fun i v hi => ?_⟩
  by_cases c : i < xs.length
  · rw [List.getElem?_append_left c] at hi
    have : (us ++ vs).getD i undef = us.getD i undef := by
      simp only [Array.getD_eq_getD_getElem?]
      rw [Array.getElem?_append_left (by rw [h.1]; exact c)]
    rw [this]; exact h.2 i v hi
  · rw [List.getElem?_append_right (by omega)] at hi
    have : (us ++ vs).getD i undef = vs.getD (i - xs.length) undef := by
      simp only [Array.getD_eq_getD_getElem?]
      rw [Array.getElem?_append_right (by rw [h.1]; omega), h.1]
    rw [this]; exact k.2 _ v hi

theorem args_eval {xs : Array Operand} {vs : List AV} (hf : FrR w M θ σ π env a.tmps) (h : lookVs env xs.toList = some vs) : ArgsR M θ vs (xs.map a.eval) := by
  obtain ⟨e1, e2⟩ := lookVs_sound hf h
  refine ⟨by simp [e1], fun i c hc => ?_⟩
  have hi : i < xs.size := by have := (List.getElem?_eq_some_iff.1 hc).1; rw [e1] at this; simpa using this
  have hx : xs.toList[i]? = some xs[i] := by simp [hi]
  have : (xs.map a.eval).getD i undef = a.eval xs[i] := by simp [Array.getD_eq_getD_getElem?, hi]
  rw [this]
  exact e2 i c _ hc hx

theorem op_call {c : Call} {f : Operand} {g : FuncId} {fi ca args : List AV} {r : AV} {σ' : St} (hs : StR w M θ σ) (hf : FrR w M θ σ π env a.tmps) (hd : okDst env o.dst = true) (ho : o.op = .call c) (hc : c.callee = .value f)
    (hfv : lookV env f = some (.fn g fi ca)) (hx : lookVs env c.args.toList = some args) (hr : CallR P g (fi ++ args ++ ca) σ r σ') : OpS P w M θ σ π o a env σ' (.val r) := by
  obtain ⟨fu, cu, e1, e2, e3, e4, e5⟩ := (lookV_sound hf hfv).rep.fn
  have ha := args_eval hf hx
  have hall : ArgsR M θ (fi ++ args ++ ca) (fu ++ c.args.map a.eval ++ cu) := (ArgsR.append ⟨e2, fun i v h => (e4 i v h).repA⟩ ha).append ⟨e3, fun i v h => (e5 i v h).repA⟩
  intro K Q hK
  have hrun : (execOp a.eval o).run P w = .ok (.enter g (fu ++ c.args.map a.eval ++ cu)) w := by
    simp only [execOp, ho, resolve, hc, e1, Deferred.ofValue, Sem.run_bind, Sem.run_pure, Result.andThen_ok, invoke]
    exact hr.1 w _
  unfold Oper.wp
  rw [hrun]
  refine (hr.2 w M θ _ hs hall).mono ?_
  rintro e w' ⟨v, M', θ', rfl, h1, h2, h3⟩
  exact hK v w' M' θ' π (h1.lift π) h2 ((hf.ext h1).putV o.dst hd h3)

set_option maxHeartbeats 1000000 in
theorem evalV_sound {C : CallF} {base nid : Nat} {isv : Tmp → Bool} {bs : Tmp → Option Tmp} {σ' : St} {sl : Slot} (hC : CallOk P C) (hb : base ≤ σ.length) (hs : StR w M θ σ) (hf : FrR w M θ σ π env a.tmps) (hd : okDst env o.dst = true)
    (h : evalV P C base isv bs nid env σ o = some (σ', sl)) : OpS P w M θ σ π o a env σ' sl := by
  unfold evalV at h
  split at h
  · rename_i x ho
    split at h
    · cases h
    · cases h; exact op_move hs hf hd (.inl ho)
  · rename_i x ho
    split at h
    · cases h
    · cases h; exact op_move hs hf hd (.inr ho)
  · rename_i c x y ho
    split at h
    · rename_i t hc
      split at h
      · rename_i v hv; cases h; exact op_pick hs hf hd ho hc hv
      · cases h
    · cases h
  · rename_i e ho
    split at h
    · rename_i z hz
      split at h
      · rename_i hv
        cases h
        cases hdd : o.dst with
        | none => rw [hdd] at hv; simp [isv?] at hv
        | some d => exact op_alloc_var hs hf hd hdd ho hz
      · split at h
        · rename_i hn
          simp only [Bool.and_eq_true] at hn
          cases h; exact op_alloc_heap hs hf hd ho hz hn.1
        · cases h
    · cases h
  · rename_i e x ho
    split at h
    · rename_i z hz
      split at h
      · rename_i hv
        cases h
        cases hdd : o.dst with
        | none => rw [hdd] at hv; simp [isv?] at hv
        | some d => exact op_box_var hs hf hd hdd ho hz
      · split at h
        · rename_i hn
          simp only [Bool.and_eq_true] at hn
          cases h; exact op_box_heap hs hf hd ho hz hn.1
        · cases h
    · cases h
  · rename_i t ps ho
    split at h
    · rename_i vs hvs
      split at h
      · rename_i v hv; cases h; exact op_build hs hf hd ho hvs hv
      · cases h
    · cases h
  · rename_i t n ps ho
    split at h
    · rename_i e sz bytes vs ht hvs
      split at h
      · rename_i hc
        simp only [Bool.and_eq_true, beq_iff_eq, decide_eq_true_eq] at hc
        split at h
        · rename_i xs hxs; cases h; exact op_buildSlice hs hf hd ho ht hvs hc.1.1.1 hc.1.1.2 hc.1.2 hc.2 hxs
        · cases h
      · cases h
    · cases h
  · rename_i t x ho
    split at h
    · split at h
      · rename_i v hv; cases h; exact op_load hs hf hd ho hv
      · cases h
    · cases h
  · rename_i x ho
    split at h
    · rename_i s off hx; cases h; exact op_nilCheck_plc hs hf hd ho hx
    · rename_i id off hx; cases h; exact op_nilCheck_val hs hf hd ho hx (.inl ⟨_, _, rfl⟩)
    · rename_i s sz i off hx; cases h; exact op_nilCheck_val hs hf hd ho hx (.inr (.inl ⟨_, _, _, _, rfl⟩))
    · rename_i f fi c hx; cases h; exact op_nilCheck_val hs hf hd ho hx (.inr (.inr ⟨_, _, _, rfl⟩))
    · cases h
  · rename_i op t x y t' ho
    split at h
    · rename_i u v hu hv
      split at h
      · rename_i r hr; cases h; exact op_binOp hs hf hd ho hu hv hr
      · split at h
        · rename_i hn; cases h; exact op_nilEq hs hf hd ho hu hn
        · cases h
    · cases h
  · rename_i op t x ho
    split at h
    · rename_i u hu
      split at h
      · rename_i r hr; cases h; exact op_unOp hs hf hd ho hu hr
      · cases h
    · cases h
  · rename_i t d x ho
    split at h
    · rename_i q k k' n ht hu hx; cases h; exact op_convert hs hf hd ho hu ⟨_, ht⟩ hx
    · cases h
  · rename_i f fi ca ho
    split at h
    · rename_i vs us h1 h2
      split at h
      · rename_i hc
        simp only [Bool.and_eq_true] at hc
        cases h; exact op_makeFunc hs hf hd ho h1 h2 hc.1 hc.2
      · cases h
    · cases h
  · rename_i t ho
    split at h
    · rename_i x ht
      split at h
      · rename_i hn
        simp only [Bool.and_eq_true] at hn
        cases h; exact op_makeMap hs hf hd ho ht (.inl rfl) hn.1
      · cases h
    · cases h
  · rename_i t r ho
    split at h
    · rename_i x k n ht hr
      split at h
      · rename_i hn
        simp only [Bool.and_eq_true] at hn
        cases h; exact op_makeMap hs hf hd ho ht (.inr ⟨_, _, _, rfl, hr⟩) hn.1
      · cases h
    · cases h
  · rename_i t l c ho
    split at h
    · rename_i e sz bytes n m ht hl hc
      split at h
      · rename_i z hz
        split at h
        · rename_i hcond
          obtain ⟨h0, h1, h2, h3, h4, h5, h6, _⟩ := hcond
          cases h; exact op_makeSlice hs hf hd ho ht hl hc hz h0 h1 h2 h3 h4 h5 h6
        · cases h
      · cases h
    · cases h
  · rename_i t x lo hi mx ho
    split at h
    · rename_i e sz bytes s l h' m ht hx hl hh hm
      split at h
      · rename_i v hv; cases h; exact op_slice hs hf hd ho ht hx hl hh hm hv
      · cases h
    · cases h
  · rename_i t x f ho
    split at h
    · rename_i o1 s ft t0 off ht hx; cases h; exact op_fieldAddr_plc hs hf hd ho ht hx
    · rename_i o1 s ft id off ht hx; cases h; exact op_fieldAddr_ptr hs hf hd ho ht hx
    · rename_i o1 s ft sv sz i off ht hx; cases h; exact op_fieldAddr_elm hs hf hd ho ht hx
    · cases h
  · rename_i t x f ho
    split at h
    · rename_i o1 s ft cs ht hx
      split at h
      · rename_i v hv; cases h; exact op_field hs hf hd ho ht hx hv
      · cases h
    · cases h
  · rename_i t x i ho
    split at h
    · rename_i e sz bytes s k n ht hx hi
      split at h
      · rename_i len hlen
        split at h
        · rename_i hc
          cases h
          refine op_indexAddr hs hf hd ho ht hx hi ?_ hc.1 hc.2
          unfold lenS at hlen
          split at hlen
          · cases hlen; exact .inl ⟨_, _, _, rfl, rfl⟩
          · cases hlen; exact .inr ⟨_, _, _, _, _, rfl⟩
          · cases hlen
        · cases h
      · cases h
    · cases h
  · rename_i t x k ok ho
    split at h
    · rename_i m kv hx hk
      split at h
      · rename_i r hr
        split at h
        · rename_i kt e ht
          split at h
          · rename_i v hv
            have := op_lookup (ok := ok) hs hf hd ho hx hk hr ht hv
            cases ok <;> (simp at h; obtain ⟨rfl, rfl⟩ := h; simpa using this)
          · cases h
        · cases h
      · cases h
    · cases h
  · rename_i t m k x ho
    split at h
    · rename_i mv kv v h1 h2 h3
      split at h
      · rename_i s1 hp; cases h; exact op_mapUpdate hs hf hd ho h1 h2 h3 hp
      · cases h
    · cases h
  · rename_i x i ho
    split at h
    · rename_i vs hx
      split at h
      · rename_i v hv; cases h; exact op_extract hs hf hd ho hx hv
      · cases h
    · cases h
  · rename_i c ho
    split at h
    · rename_i args hargs
      split at h
      · rename_i b hc
        split at h
        · rename_i r s1 hr
          cases h
          unfold evalBuiltin at hr
          split at hr
          · rename_i t t' s x ht
            exact op_append hs hf hd ho hc ht hargs (by unfold evalBuiltin; exact hr)
          · rename_i t x ht
            exact op_len (base := base) hs hf hd ho hc ht hargs (by unfold evalBuiltin; exact hr)
          · rename_i t ts x k ht
            exact op_delete hs hf hd ho hc ht hargs (by unfold evalBuiltin; exact hr)
          · cases hr
        · cases h
      · rename_i f hc
        split at h
        · rename_i g fi ca hfv
          split at h
          · rename_i r s1 hr
            cases h
            exact op_call hs hf hd ho hc hfv hargs (hC.sim _ _ _ _ _ _ hb hr)
          · cases h
        · cases h
      · cases h
    · cases h
  · cases h

theorem evalS_sound {base : Nat} {bs : Tmp → Option Tmp} {env' : Env} {σ' : St} {t : TypeId} {x y : Operand} (hs : StR w M θ σ) (hf : FrR w M θ σ π env a.tmps) (hd : okDst env o.dst = true) (ho : o.op = .store t x y)
    (hst : evalS P base bs env σ t x y = some (env', σ')) : OpS P w M θ σ π o a env' σ' .und := by
  unfold evalS at hst
  split at hst
  · split at hst
    · rename_i v hv
      unfold storeAt at hst
      split at hst
      · rename_i hsz
        have hsz' : szOf P t = some v.cells.length := by simpa using hsz
        split at hst
        · rename_i s off hx
          split at hst
          · rename_i cs hcs
            split at hst
            · rename_i cs' hsp; cases hst; exact op_store_plc hs hf hd ho hx hv hsz' hcs hsp
            · cases hst
          · cases hst
        · rename_i id off hx
          split at hst
          · split at hst
            · rename_i cs hcs
              split at hst
              · rename_i cs' hsp; cases hst; exact op_store_ptr hs hf hd ho hx hv hsz' hcs hsp
              · cases hst
            · cases hst
          · cases hst
        · rename_i s1 id gen ro len lim sz i off hx
          split at hst
          · split at hst
            · rename_i s2 xs hob
              split at hst
              · rename_i hc
                simp only [Bool.and_eq_true, beq_iff_eq, decide_eq_true_eq] at hc
                obtain ⟨⟨rfl, hgen⟩, hi⟩ := hc
                split at hst
                · rename_i z hz
                  split at hst
                  · rename_i z' hz'; cases hst; exact op_store_elm hs hf hd ho hx hv hsz' hob hgen hi hz hz'
                  · cases hst
                · cases hst
              · cases hst
            · cases hst
          · cases hst
        · cases hst
      · cases hst
    · cases hst
  · cases hst

theorem evalOp_sound {C : CallF} {base nid : Nat} {isv : Tmp → Bool} {bs : Tmp → Option Tmp} {env' : Env} {σ' : St} {sl : Slot} (hC : CallOk P C) (hb : base ≤ σ.length) (hs : StR w M θ σ) (hf : FrR w M θ σ π env a.tmps) (hd : okDst env o.dst = true)
    (h : evalOp P C base isv bs nid env σ o = some (env', σ', sl)) : OpS P w M θ σ π o a env' σ' sl := by
  unfold evalOp at h
  split at h
  · rename_i t x y ho
    split at h
    · rename_i e1 s1 hst
      cases h; exact evalS_sound hs hf hd ho hst
    · cases h
  · split at h
    · rename_i s1 sl1 hv
      cases h; exact evalV_sound hC hb hs hf hd hv
    · cases h

end
end Go.Can
