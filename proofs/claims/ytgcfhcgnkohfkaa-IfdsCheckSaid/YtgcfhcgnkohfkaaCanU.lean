/- The evaluator's calls, with fuel: what they say, the model does. -/
import Derived.Test.YtgcfhcgnkohfkaaCanT
set_option linter.unusedSimpArgs false
set_option linter.unusedVariables false
namespace Go.Can
open Go Go.RowKit

/-- What the functions that stand for themselves owe. -/
structure PrimOk (P : Program) (cf : Cfg) : Prop where
  sim : ∀ f p args σ base r σ', cf.prim f = some p → base ≤ σ.length → p args σ base = some (r, σ') → CallR P f args σ r σ'
  keep : ∀ f p args σ base r σ', cf.prim f = some p → base ≤ σ.length → p args σ base = some (r, σ') → Keep base σ σ'
  pure : ∀ f p args σ base r σ', cf.prim f = some p → cf.pure f = true → p args σ base = some (r, σ') → σ' = σ
  grow : ∀ f p args σ base r σ', cf.prim f = some p → cf.grow f = true → p args σ base = some (r, σ') → Sup σ σ'

section
variable {P : Program} {C : CallF} {cf : Cfg}

theorem stepA_keep {base : Nat} {isv : Tmp → Bool} {bs : Tmp → Option Tmp} {ops : List Oper} {n0 i : Nat} {s m : S} (hC : CallOk P C) (hb : base ≤ s.2.length) (h : stepA P C base isv bs ops n0 i s = some m) : Keep base s.2 m.2 := by
  unfold stepA at h
  split at h
  · cases h; exact Keep.refl _ _
  · split at h
    · split at h
      · split at h
        · rename_i hev; cases h; exact evalOp_keep hC hb hev
        · cases h
      · cases h; exact Keep.refl _ _
      · cases h
    · cases h

theorem runA_keep {base : Nat} {step : Nat → S → Option S} (hst : ∀ i s m, base ≤ s.2.length → step i s = some m → Keep base s.2 m.2) : ∀ {l : List Nat} {s m : S}, base ≤ s.2.length → runA step l s = some m → Keep base s.2 m.2
  | [], s, m, _, h => by cases h; exact Keep.refl _ _
  | i :: l, s, m, hb, h => by
    unfold runA at h
    split at h
    · rename_i s1 h1
      have k := hst i s s1 hb h1
      exact k.trans (runA_keep hst (Nat.le_trans hb k.1) h)
    · cases h

theorem regionA_keep {base : Nat} {f : FuncId} {id : Nat} {ops : Array Oper} {d : Bool} {s s' : S} (hC : CallOk P C) (hb : base ≤ s.2.length) (h : regionA P cf C base f id ops d s = some s') : Keep base s.2 s'.2 := by
  unfold regionA at h
  simp only at h
  split at h
  · split at h
    · rename_i env σ hrun
      cases h
      have k := runA_keep (base := base) (fun i s m hb h => stepA_keep hC hb h) (by simp; omega) hrun
      exact (Keep.app s.2 _ hb).trans k
    · cases h
  · cases h

theorem exec_keep {base : Nat} {rg : Nat → Array Oper → Bool → S → Option S} {mk : Code → Option Out → Env → Option Env} {lp : (S → Option (Out × S)) → S → Option (Out × S)}
    (hrg : ∀ id ops d s s', base ≤ s.2.length → rg id ops d s = some s' → Keep base s.2 s'.2) (hlp : ∀ b s r, lp b s = some r → ∃ n, loopN b n s = some r) :
    ∀ (c : Code) {s s' : S} {out : Out}, execC rg mk lp c s = some (out, s') → base ≤ s.2.length → Keep base s.2 s'.2 := by
  intro c
  induction c with
  | skip => intro s s' out h hb; cases h; exact Keep.refl _ _
  | label l => intro s s' out h hb; cases h; exact Keep.refl _ _
  | exit l => intro s s' out h hb; cases h; exact Keep.refl _ _
  | ret => intro s s' out h hb; cases h; exact Keep.refl _ _
  | region id ops d =>
    intro s s' out h hb
    unfold execC at h
    split at h
    · rename_i s1 h1; cases h; exact hrg _ _ _ _ _ hb h1
    · cases h
  | seq x y ihx ihy =>
    intro s s' out h hb
    unfold execC at h
    split at h
    · rename_i s1 h1
      have k := ihx h1 hb
      exact k.trans (ihy h (Nat.le_trans hb k.1))
    · exact ihx h hb
  | cond c x y ihx ihy =>
    intro s s' out h hb
    unfold execC at h
    split at h
    · exact ihx h hb
    · exact ihy h hb
    · cases h
  | block id x ih =>
    intro s s' out h hb
    unfold execC at h
    split at h
    · rename_i i s1 h1
      split at h <;> (cases h; exact ih h1 hb)
    · exact ih h hb
  | loop x ih =>
    intro s s' out h hb
    unfold execC at h
    split at h
    · rename_i out1 s1 h0
      split at h
      · rename_i e1 he1
        cases h
        show Keep base s.2 s1.2
        obtain ⟨n, hn⟩ := hlp _ _ _ h0
        clear h0
        induction n generalizing s with
        | zero => cases hn
        | succ n ihn =>
          unfold loopN at hn
          split at hn
          · rename_i s2 h1
            unfold roundA at h1
            split at h1
            · have k := ih h1 hb
              exact k.trans (ihn (s := s2) (Nat.le_trans hb k.1) hn)
            · cases h1
          · unfold roundA at hn
            split at hn
            · rename_i e he; exact ih (s := (e, s.2)) hn hb
            · cases hn
      · cases h
    · cases h
  | _ => intros; contradiction

theorem loop_self : ∀ (n : Nat) (b : S → Option (Out × S)) (s : S) (r : Out × S), (fun (b : S → Option (Out × S)) s => loopN b n s) b s = some r → ∃ n, loopN b n s = some r := fun n b s r h => ⟨n, h⟩

theorem start_frame {w : World} {M : Mem} {θ : Th} {σ : St} {args : List AV} {vs : Array Value} (n : Nat) (ha : ArgsR M θ args vs) :
    FrR w M θ σ (fun _ => none) (args.map .val ++ List.replicate (n - args.length) .und) (vs ++ Array.replicate (n - vs.size) undef) := by
  refine ⟨by simp [ha.1], fun s sl hs => ?_, fun s g h => (by cases h), fun s t g h => (by cases h), fun s g h => (by cases h)⟩
  by_cases hlt : s < args.length
  · rw [List.getElem?_append_left (by simpa using hlt), List.getElem?_map] at hs
    have e : (vs ++ Array.replicate (n - vs.size) undef).getD s undef = vs.getD s undef := by
      simp only [Array.getD_eq_getD_getElem?]
      rw [Array.getElem?_append_left (by rw [ha.1]; exact hlt)]
    rw [e]
    cases hv : args[s]? with
    | none => rw [hv] at hs; cases hs
    | some v => rw [hv] at hs; cases hs; exact (ha.2 s v hv).rep
  · rw [List.getElem?_append_right (by simp; omega), List.getElem?_replicate] at hs
    split at hs
    · cases hs
      have : (vs ++ Array.replicate (n - vs.size) undef).getD s undef = undef := by
        simp only [Array.getD_eq_getD_getElem?]
        rw [Array.getElem?_append_right (by rw [ha.1]; omega), Array.getElem?_replicate]
        split <;> rfl
      exact this
    · cases hs

theorem body_sound (hm : P.follows .mixedOrders = true) (hC : CallOk P C) (hp : ∀ f args σ base r σ', cf.pure f = true → C f args σ base = some (r, σ') → σ' = σ) (hg : ∀ f args σ base r σ', cf.grow f = true → C f args σ base = some (r, σ') → Sup σ σ') {lp : (S → Option (Out × S)) → S → Option (Out × S)} (hlp : ∀ b s r, lp b s = some r → ∃ n, loopN b n s = some r)
    {f : FuncId} {fn : Func} {c : Code} {args : List AV} {σ σ' : St} {base : Nat} {r : AV} (hf : P.funcs[f]? = some fn) (hc : fn.body = some c) (hb : base ≤ σ.length) (h : bodyA P cf C lp f fn c args σ base = some (r, σ'))
    {w : World} {M : Mem} {θ : Th} {vs : Array Value} (hs : StR w M θ σ) (ha : ArgsR M θ args vs) :
    Keep base σ σ' ∧ Calls P f vs w fun e w' => ∃ v M' θ', e = .returned v ∧ Ext0 w M θ σ w' M' θ' σ' ∧ StR w' M' θ' σ' ∧ Rep M' θ' r v := by
  unfold bodyA at h
  have key : ∀ out s, execC (regionA P cf C base f) (fun c o e => maskA (fun t => (cf.live f c o).contains t) 0 e) lp c (args.map .val ++ List.replicate (fn.ntmps - args.length) .und, σ) = some (out, s) →
      (out = .normal ∨ out = .ret) → (match resOf P s.1 s.2 fn.results.toList with | some vs => some (mkRes vs, s.2) | none => none) = some (r, σ') →
      Keep base σ σ' ∧ Calls P f vs w fun e w' => ∃ v M' θ', e = .returned v ∧ Ext0 w M θ σ w' M' θ' σ' ∧ StR w' M' θ' σ' ∧ Rep M' θ' r v := by
    intro out s hex hout hres
    have hk := exec_keep (fun id ops d s s' hb h => regionA_keep hC hb h) hlp c hex hb
    split at hres
    · rename_i rs hrs
      cases hres
      refine ⟨hk, calls_of_wp hf hc ?_⟩
      refine exec_sound (Rel := RelS w M θ σ base) (fun id ops d s s' a w Q h1 h2 h3 => region_sound hm hC hp hg h1 h2 h3) (fun c o e e' σ a w h1 h2 => RelS.mask (s := (e, σ)) h2 h1) hlp (fun s a w c t h1 h2 => cond_sound h1 h2) c hex
        ⟨rfl, hb, M, θ, fun _ => none, Ext.refl _ _ _ _ _, hs, start_frame fn.ntmps ha⟩ fun a' w' hr' => ?_
      obtain ⟨M', θ', π', he, hs', hf'⟩ := hr'.rel
      obtain ⟨u, h1, h2⟩ := results_sound hs' hf' hrs
      have post : a'.defers = [] ∧ ∃ v, (results fn a'.tmps).run P w' = .ok v w' ∧ ∃ v' M' θ', Ending.returned v = .returned v' ∧ Ext0 w M θ σ w' M' θ' s.2 ∧ StR w' M' θ' s.2 ∧ Rep M' θ' (mkRes rs) v' :=
        ⟨hr'.defers, u, h1, u, M', θ', rfl, ⟨he.os, he.tape, he.output, he.size, he.m, he.t, he.block, he.own, fun s g h => (by cases h), he.dom⟩, hs', h2⟩
      rcases hout with rfl | rfl
      · exact post
      · exact post
    · cases hres
  split at h
  · rename_i s hex; exact key _ _ hex (.inl rfl) h
  · rename_i s hex; exact key _ _ hex (.inr rfl) h
  · cases h

/-- The functions with a body are entered. -/
def Enters (P : Program) : Prop := ∀ (f : FuncId) (fn : Func), P.funcs[f]? = some fn → fn.body.isSome = true → (fn.name == "runtime.NumGoroutine") = false

theorem enters_call (he : Enters P) {f : FuncId} {fn : Func} {c : Code} (hf : P.funcs[f]? = some fn) (hc : fn.body = some c) (w : World) (vs : Array Value) : (callFunc f vs).run P w = .ok (.enter f vs) w := by
  have h1 := he f fn hf (by rw [hc]; rfl)
  simp only [callFunc, Sem.run_bind, run_program, Result.andThen_ok, hf, h1, hc, Option.isNone_some, Bool.false_eq_true, if_false, Sem.run_pure]

/-- With nothing owned and no argument: what the call leaves is fixed memory, and new. -/
theorem lift_state {w w1 : World} {M M2 : Mem} {θ : Th} {σ : St} {n : Nat} {θ1 : Th} (h0 : StR w M θ σ) (he : Ext0 w M ⟨fun _ _ => none, fun _ => none⟩ [] w1 M2 (θ1.cut 0) []) (h2 : StR w1 M2 (θ1.cut 0) []) :
    Ext0 w M θ σ w1 M2 θ σ ∧ StR w1 M2 θ σ := by
  have hno : ∀ g, ¬ Own ⟨fun _ _ => none, fun _ => none⟩ [] g := by
    rintro g ⟨id, h⟩
    unfold OwnAt at h
    simp at h
  have hb : ∀ g, g < w.heap.size → w1.heap[g]? = w.heap[g]? := fun g hg => he.block g hg (hno g) (fun _ => by simp)
  refine ⟨⟨he.os, he.tape, he.output, he.size, he.m, θ.le_refl, fun g hg _ _ => hb g hg, fun g hg => .inl hg, fun s g hs => (by cases hs), fun g o v hv => ?_⟩, ⟨h2.mem, fun id x hx => (h0.ob id x hx).keep he.m hx fun g hg => hb g (hg.lt h0), h0.dis, fun g hg o => ?_, h0.far⟩⟩
  · rcases he.dom g o v hv with h | h | h
    · exact .inl h
    · exact .inr (.inl h)
    · exact absurd h (hno g)
  · cases hm : M2 g o with
    | none => rfl
    | some v =>
      rcases he.dom g o v hm with h | h | h
      · have := h0.out g hg o; rw [h] at this; cases this
      · obtain ⟨id, hid⟩ := hg
        have := hid.lt h0; omega
      · exact absurd h (hno g)

theorem cut_zero_le {θ θ1 : Th} : (θ1.cut 0).le θ := ⟨fun id gen x h => by simp [Th.cut] at h, fun id g h => by simp [Th.cut] at h⟩

structure CallGood (P : Program) (cf : Cfg) (C : CallF) : Prop where
  ok : CallOk P C
  pure : ∀ f args σ base r σ', cf.pure f = true → C f args σ base = some (r, σ') → σ' = σ
  grow : ∀ f args σ base r σ', cf.grow f = true → C f args σ base = some (r, σ') → Sup σ σ'

theorem Keep.sup {σ σ' : St} (h : Keep σ.length σ σ') : Sup σ σ' := fun k x hk _ => by rw [h.2 k (List.getElem?_eq_some_iff.1 hk).1]; exact hk
theorem Keep.down {b n : Nat} {σ σ' : St} (h : Keep n σ σ') (hb : b ≤ n) : Keep b σ σ' := ⟨h.1, fun i hi => h.2 i (by omega)⟩

theorem bodyA_keep {base : Nat} {lp : (S → Option (Out × S)) → S → Option (Out × S)} (hlp : ∀ b s r, lp b s = some r → ∃ n, loopN b n s = some r) {f : FuncId} {fn : Func} {c : Code} {args : List AV} {σ σ' : St} {r : AV} (hC : CallOk P C) (hb : base ≤ σ.length)
    (h : bodyA P cf C lp f fn c args σ base = some (r, σ')) : Keep base σ σ' := by
  unfold bodyA at h
  split at h
  · rename_i s hex
    have hk := exec_keep (fun id ops d s s' hb h => regionA_keep hC hb h) hlp c hex hb
    split at h
    · cases h; exact hk
    · cases h
  · rename_i s hex
    have hk := exec_keep (fun id ops d s s' hb h => regionA_keep hC hb h) hlp c hex hb
    split at h
    · cases h; exact hk
    · cases h
  · cases h

theorem enter_good (hm : P.follows .mixedOrders = true) (he : Enters P) (hp : PrimOk P cf) (hC : CallGood P cf C) {lp : (S → Option (Out × S)) → S → Option (Out × S)} (hlp : ∀ b s r, lp b s = some r → ∃ n, loopN b n s = some r) :
    CallGood P cf (fun f args σ base => enterA P cf C lp f args σ base) := by
  refine ⟨⟨fun f args σ base r σ' hb h => ?_, fun f args σ base r σ' hb h => ?_⟩, fun f args σ base r σ' hpf h => ?_, fun f args σ base r σ' hgf h => ?_⟩
  · unfold enterA at h
    split at h
    · rename_i p hpr; exact hp.sim f p args σ base r σ' hpr hb h
    · split at h
      · rename_i fn hf
        split at h
        · rename_i c hc
          refine ⟨fun w vs => enters_call he hf hc w vs, fun w M θ vs hs ha => ?_⟩
          split at h
          · split at h
            · rename_i v σ1 hbody
              split at h
              · rename_i v' hv'
                cases h
                cases args with
                | nil =>
                  simp only [List.isEmpty_nil, if_true] at hbody hv'
                  have hs0 : StR w M ⟨fun _ _ => none, fun _ => none⟩ [] := ⟨hs.mem, fun id x hx => by simp at hx, fun i j g hi => by unfold OwnAt at hi; simp at hi, fun g ⟨id, h⟩ => by unfold OwnAt at h; simp at h, fun id _ => ⟨fun _ => rfl, rfl⟩⟩
                  have ha0 : ArgsR M ⟨fun _ _ => none, fun _ => none⟩ [] vs := ⟨ha.1, by simp⟩
                  obtain ⟨hk, hcalls⟩ := body_sound hm hC.ok hC.pure hC.grow hlp hf hc (Nat.le_refl _) hbody hs0 ha0
                  refine hcalls.mono ?_
                  rintro e w1 ⟨u, M1, θ1, rfl, k1, k2, k3⟩
                  obtain ⟨q1, q2⟩ := cut_state hs0 k2 k1 hk.2
                  obtain ⟨r1, r2⟩ := lift_state (n := 0) hs q1 q2
                  exact ⟨u, _, _, rfl, r1, r2, (freeze_rep k2 hv' k3).mono (Mem.le_refl _) cut_zero_le⟩
                | cons x xs =>
                  simp only [List.isEmpty_cons, Bool.false_eq_true, if_false] at hbody hv'
                  obtain ⟨hk, hcalls⟩ := body_sound hm hC.ok hC.pure hC.grow hlp hf hc (Nat.le_refl _) hbody hs ha
                  refine hcalls.mono ?_
                  rintro e w1 ⟨u, M1, θ1, rfl, k1, k2, k3⟩
                  obtain ⟨q1, q2⟩ := cut_state hs k2 k1 hk.2
                  exact ⟨u, _, _, rfl, q1, q2, freeze_rep k2 hv' k3⟩
              · cases h
            · cases h
          · exact (body_sound hm hC.ok hC.pure hC.grow hlp hf hc (by split <;> omega) h hs ha).2
        · cases h
      · cases h
  · unfold enterA at h
    split at h
    · rename_i p hpr; exact hp.keep f p args σ base r σ' hpr hb h
    · split at h
      · rename_i fn hf
        split at h
        · rename_i c hc
          split at h
          · split at h
            · split at h
              · cases h; exact Keep.refl _ _
              · cases h
            · cases h
          · exact (bodyA_keep hlp hC.ok (by split <;> omega) h).down (by split <;> omega)
        · cases h
      · cases h
  · unfold enterA at h
    split at h
    · rename_i p hpr; exact hp.pure f p args σ base r σ' hpr hpf h
    · split at h
      · split at h
        · rw [if_pos hpf] at h
          split at h
          · split at h
            · cases h; rfl
            · cases h
          · cases h
        · cases h
      · cases h
  · unfold enterA at h
    split at h
    · rename_i p hpr; exact hp.grow f p args σ base r σ' hpr hgf h
    · split at h
      · split at h
        · split at h
          · split at h
            · split at h
              · cases h; exact fun _ _ h _ => h
              · cases h
            · cases h
          · exact (bodyA_keep hlp hC.ok (Nat.le_refl _) h).sup
        · cases h
      · cases h

theorem callN_good (hm : P.follows .mixedOrders = true) (he : Enters P) (hp : PrimOk P cf) : ∀ n, CallGood P cf (callN P cf n)
  | 0 => ⟨⟨fun _ _ _ _ _ _ _ h => (by cases h), fun _ _ _ _ _ _ _ h => (by cases h)⟩, fun _ _ _ _ _ _ _ h => (by cases h), fun _ _ _ _ _ _ _ h => (by cases h)⟩
  | n + 1 => enter_good hm he hp (callN_good hm he hp n) (fun _ _ _ h => ⟨n, h⟩)

end
end Go.Can
