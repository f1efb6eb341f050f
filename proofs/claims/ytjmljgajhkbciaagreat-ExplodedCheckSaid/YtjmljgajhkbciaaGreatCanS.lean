/- Regions and code: what the evaluator says of them, the model does. Calls: a function's results; results that are frozen; the evaluator's calls, each with its fuel. The evaluator's calls, with fuel: what they say, the model does. -/
import Derived.Test.YtjmljgajhkbciaaGreatCanN
set_option linter.unusedSimpArgs false
set_option linter.unusedVariables false
namespace Go.Can
open Go Go.RowKit

/-- The state and the frame are related, and come from the state at the function's entry. -/
structure RelS (w0 : World) (M0 : Mem) (θ0 : Th) (σ0 : St) (base : Nat) (s : S) (a : Act) (w : World) : Prop where
  defers : a.defers = []
  base : base ≤ s.2.length
  rel : ∃ M θ π, Ext w0 M0 θ0 σ0 (fun _ => none) w M θ s.2 π ∧ StR w M θ s.2 ∧ FrR w M θ s.2 π s.1 a.tmps

section
variable {P : Program} {C : CallF} {base : Nat} {isv : Tmp → Bool} {bs : Tmp → Option Tmp} {pure : FuncId → Bool} {Q : Exit → Act → World → Prop}
variable {w0 : World} {M0 : Mem} {θ0 : Th} {σ0 : St}

theorem wanted_sound {w : World} {M : Mem} {θ : Th} {σ : St} {π : Nat → Option Nat} {env : Env} {a : Act} {ops : Array Oper} {o : Oper} {b : Bool} (hf : FrR w M θ σ π env a.tmps) (h : wantedA ops.toList env o = some b) :
    Region.wanted o (yielded ops a.tmps) = b := by
  unfold wantedA at h
  unfold Region.wanted
  cases hg : o.guard with
  | none => rw [hg] at h; cases h; rfl
  | some g =>
    obtain ⟨j, want⟩ := g
    rw [hg] at h
    simp only at h ⊢
    rw [Array.getElem?_toList] at h
    unfold yielded
    cases hd : (ops[j]?).bind (·.dst) with
    | none => rw [hd] at h; cases h; rfl
    | some d =>
      rw [hd] at h
      simp only [Option.bind_some] at h ⊢
      have hget : ∀ sl, env[d]? = some sl → ∃ u, a.tmps[d]? = some u ∧ SlotR w M θ π d sl u := fun sl hs => by
        have h1 := hf.slot d sl hs
        have hlt : d < a.tmps.size := by rw [hf.size]; exact (List.getElem?_eq_some_iff.1 hs).1
        refine ⟨a.tmps[d], Array.getElem?_eq_getElem hlt, ?_⟩
        have : a.tmps.getD d undef = a.tmps[d] := by simp [Array.getD_eq_getD_getElem?, hlt]
        rwa [this] at h1
      split at h
      · rename_i b' hb
        obtain ⟨u, h1, h2⟩ := hget _ hb
        cases h
        have : u = .bool b' := Rep.bool h2
        rw [h1, this]
        simp
      · rename_i hb
        obtain ⟨u, h1, h2⟩ := hget _ hb
        cases h
        have : u = undef := h2
        rw [h1, this]
        rfl
      · rename_i k n hb
        obtain ⟨u, h1, h2⟩ := hget _ hb
        cases h
        have : u = .int k n := Rep.int h2
        rw [h1, this]
        rfl
      · cases h

theorem step_sound (hC : CallOk P C) {ops : Array Oper} {n0 j : Nat} {s m : S} {a : Act} {w : World} {K : Act → World → Prop} (hr : RelS w0 M0 θ0 σ0 base s a w)
    (h : stepA P C base isv bs ops.toList n0 j s = some m) (hK : ∀ a' w', RelS w0 M0 θ0 σ0 base m a' w' → K a' w') : wpOp P ops Q j K a w := by
  unfold stepA at h
  unfold wpOp
  rw [Array.getElem?_toList] at h
  cases ho : ops[j]? with
  | none => rw [ho] at h; cases h; exact hK a w hr
  | some o =>
    rw [ho] at h
    simp only at h ⊢
    obtain ⟨M, θ, π, he, hs, hf⟩ := hr.rel
    split at h
    · rename_i hd
      split at h
      · rename_i hw
        rw [if_pos (wanted_sound hf hw)]
        left
        split at h
        · rename_i e1 s1 sl hev
          cases h
          refine evalOp_sound hC hr.base hs hf hd hev K Q fun u w' M' θ' π' k1 k2 k3 => ?_
          refine hK _ _ ⟨?_, ?_, M', θ', π', he.trans k1, k2, k3⟩
          · cases hdd : o.dst <;> simp [Act.put, hr.defers]
          · exact Nat.le_trans hr.base (evalOp_keep hC hr.base hev).1
        · cases h
      · rename_i hw
        rw [if_neg (by rw [wanted_sound hf hw]; simp)]
        cases h
        refine hK _ _ ⟨?_, hr.base, M, θ, π, he, hs, hf.put o.dst hd (by simp) (fun _ => rfl)⟩
        cases hdd : o.dst <;> simp [Act.put, hr.defers]
      · cases h
    · cases h

/-! Forgetting. -/

theorem FrR.weaken {w : World} {M : Mem} {θ : Th} {σ : St} {π : Nat → Option Nat} {env env' : Env} {tmps : Array Value} (h : FrR w M θ σ π env tmps) (hl : env'.length = env.length)
    (hs : ∀ s : Nat, env'[s]? = env[s]? ∨ (env'[s]? = some Slot.top ∧ ∀ cs, env[s]? ≠ some (Slot.var cs))) : FrR w M θ σ π env' tmps := by
  refine ⟨by rw [h.size, hl], fun s sl he => ?_, fun s g hp => ?_, h.inj, h.out⟩
  · rcases hs s with e | ⟨e, _⟩
    · exact h.slot s sl (by rw [← e]; exact he)
    · rw [e] at he; cases he; trivial
  · obtain ⟨cs, hc⟩ := h.dom s g hp
    rcases hs s with e | ⟨_, e⟩
    · exact ⟨cs, by rw [e]; exact hc⟩
    · exact absurd hc (e cs)

theorem clearA_spec {keep : Tmp → Bool} : ∀ {os : List Oper} {env : Env}, (clearA keep os env).length = env.length ∧
    ∀ s : Nat, (clearA keep os env)[s]? = env[s]? ∨ ((clearA keep os env)[s]? = some .top ∧ ∀ cs, env[s]? ≠ some (.var cs))
  | [], env => ⟨rfl, fun _ => .inl rfl⟩
  | o :: os, env => by
    unfold clearA
    cases o.dst with
    | none => exact clearA_spec
    | some d =>
      simp only
      split
      · exact clearA_spec
      · split
        · exact clearA_spec
        · rename_i hnv
          obtain ⟨h1, h2⟩ := clearA_spec (keep := keep) (os := os) (env := env.set d .top)
          refine ⟨by rw [h1]; simp, fun s => ?_⟩
          by_cases hsd : s = d
          · subst hsd
            by_cases hlt : s < env.length
            · right
              refine ⟨?_, fun cs e => hnv cs e⟩
              rcases h2 s with e | ⟨e, _⟩
              · rw [e, List.getElem?_set_self hlt]
              · exact e
            · left
              rw [List.getElem?_eq_none (by rw [h1]; simp; omega), List.getElem?_eq_none (by omega)]
          · have e1 : (env.set d .top)[s]? = env[s]? := List.getElem?_set_ne (Ne.symm hsd)
            have := h2 s
            rw [e1] at this
            exact this

theorem RelS.clear {s : S} {a : Act} {w : World} {keep : Tmp → Bool} {os : List Oper} (hr : RelS w0 M0 θ0 σ0 base s a w) : RelS w0 M0 θ0 σ0 base (clearA keep os s.1, s.2) a w := by
  obtain ⟨M, θ, π, he, hs, hf⟩ := hr.rel
  exact ⟨hr.defers, hr.base, M, θ, π, he, hs, hf.weaken clearA_spec.1 clearA_spec.2⟩

theorem maskA_spec {live : Tmp → Bool} : ∀ {env env' : Env} {i : Nat}, maskA live i env = some env' → env'.length = env.length ∧
    ∀ (s : Nat) (sl : Slot), env'[s]? = some sl → (live (i + s) = true ∧ env[s]? = some sl ∧ ∀ t off, sl ≠ .plc t off) ∨ (live (i + s) = false ∧ sl = .top)
  | [], env', i, h => by cases h; exact ⟨rfl, fun s sl h => by cases h⟩
  | x :: env, env', i, h => by
    unfold maskA at h
    split at h
    · cases h
    · rename_i e2 h2
      obtain ⟨k1, k2⟩ := maskA_spec h2
      have k3 : ∀ (s : Nat) (sl : Slot), e2[s]? = some sl → (live (i + (s + 1)) = true ∧ env[s]? = some sl ∧ ∀ t off, sl ≠ .plc t off) ∨ (live (i + (s + 1)) = false ∧ sl = .top) := fun s sl hs => by
        have e : i + 1 + s = i + (s + 1) := by omega
        rw [← e]; exact k2 s sl hs
      split at h
      · rename_i hl
        split at h
        · cases h
        · rename_i hnp
          cases h
          refine ⟨by simp [k1], fun s sl hs => ?_⟩
          cases s with
          | zero => simp at hs; subst hs; exact .inl ⟨hl, rfl, fun t off e => hnp t off e⟩
          | succ s => exact k3 s sl (by simpa using hs)
      · rename_i hl
        cases h
        refine ⟨by simp [k1], fun s sl hs => ?_⟩
        cases s with
        | zero => simp at hs; subst hs; exact .inr ⟨by simpa using hl, rfl⟩
        | succ s => exact k3 s sl (by simpa using hs)

theorem RelS.mask {s : S} {a : Act} {w : World} {live : Tmp → Bool} {env' : Env} (hr : RelS w0 M0 θ0 σ0 base s a w) (h : maskA live 0 s.1 = some env') : RelS w0 M0 θ0 σ0 base (env', s.2) a w := by
  obtain ⟨M, θ, π, he, hs, hf⟩ := hr.rel
  obtain ⟨k1, k2⟩ := maskA_spec h
  let π' : Nat → Option Nat := fun t => if live t then π t else none
  have hle : ∀ t g, π' t = some g → live t = true ∧ π t = some g := fun t g hp => by
    simp only [π'] at hp
    split at hp
    · rename_i hl; exact ⟨hl, hp⟩
    · cases hp
  refine ⟨hr.defers, hr.base, M, θ, π', ⟨he.os, he.tape, he.output, he.size, he.m, he.t, he.block, he.own, fun t g hp => he.var t g (hle t g hp).2, he.dom⟩, hs, ⟨by rw [hf.size, k1], fun t sl ht => ?_, fun t g hp => ?_, fun t t' g h1 h2 => hf.inj t t' g (hle _ _ h1).2 (hle _ _ h2).2, fun t g hp => hf.out t g (hle _ _ hp).2⟩⟩
  · rcases k2 t sl ht with ⟨h1, h2, h3⟩ | ⟨_, rfl⟩
    · rw [Nat.zero_add] at h1
      have h4 := hf.slot t sl h2
      cases sl with
      | plc q off => exact absurd rfl (h3 q off)
      | var cs =>
        obtain ⟨g, cur, e, h5, h6⟩ := h4
        exact ⟨g, cur, e, by simp only [π', h1, if_true]; exact h5, h6⟩
      | val v => exact h4
      | und => exact h4
      | top => trivial
    · trivial
  · obtain ⟨hl, hp'⟩ := hle t g hp
    obtain ⟨cs, hc⟩ := hf.dom t g hp'
    have hlt : t < env'.length := by rw [k1]; exact (List.getElem?_eq_some_iff.1 hc).1
    refine ⟨cs, ?_⟩
    rw [List.getElem?_eq_getElem hlt]
    rcases k2 t _ (List.getElem?_eq_getElem hlt) with ⟨_, h2, _⟩ | ⟨h2, _⟩
    · rw [h2] at hc; exact hc
    · rw [Nat.zero_add] at h2; rw [hl] at h2; cases h2

/-- Free places laid behind the small heap. -/
theorem RelS.free {s : S} {a : Act} {w : World} (n : Nat) (hr : RelS w0 M0 θ0 σ0 base s a w) : RelS w0 M0 θ0 σ0 base (s.1, s.2 ++ List.replicate n .none) a w := by
  obtain ⟨M, θ, π, he, hs, hf⟩ := hr.rel
  obtain ⟨k1, k2⟩ := hs.none n
  exact ⟨hr.defers, by simp; exact Nat.le_trans hr.base (by omega), M, θ, π, ⟨he.os, he.tape, he.output, he.size, he.m, he.t, he.block, fun g hg => he.own g ((k2 g).1 hg), he.var, he.dom⟩, k1, ⟨hf.size, hf.slot, hf.dom, hf.inj, fun t g hp => ⟨(hf.out t g hp).1, fun ho => (hf.out t g hp).2 ((k2 g).1 ho)⟩⟩⟩

/-- The world has drawn once more. -/
theorem RelS.drew {s : S} {a : Act} {w : World} (hr : RelS w0 M0 θ0 σ0 base s a w) : RelS w0 M0 θ0 σ0 base s a { w with drawn := w.drawn + 1 } := by
  obtain ⟨M, θ, π, he, hs, hf⟩ := hr.rel
  exact ⟨hr.defers, hr.base, M, θ, π, ⟨he.os, he.tape, he.output, he.size, he.m, he.t, he.block, he.own, he.var, he.dom⟩, hs.keep (fun _ _ => rfl) (fun _ _ _ _ => rfl),
    ⟨hf.size, fun t sl ht => (hf.slot t sl ht).mono M.le_refl θ.le_refl (fun _ _ => rfl), hf.dom, hf.inj, hf.out⟩⟩

theorem region_sound (hm : P.follows .mixedOrders = true) (hC : CallOk P C) {cf : Cfg} (hp : ∀ f args σ base r σ', cf.pure f = true → C f args σ base = some (r, σ') → σ' = σ) (hg : ∀ f args σ base r σ', cf.grow f = true → C f args σ base = some (r, σ') → Sup σ σ') {f : FuncId} {id : Nat} {ops : Array Oper} {d : Bool} {s s' : S} {a : Act} {w : World}
    (h : regionA P cf C base f id ops d s = some s') (hr : RelS w0 M0 θ0 σ0 base s a w) (hQ : ∀ a' w', RelS w0 M0 θ0 σ0 base s' a' w' → Q .normal a' w') : (Code.region id ops d).wp P Q a w := by
  unfold regionA at h
  simp only at h
  split at h
  · rename_i hok
    split at h
    · rename_i env σ hrun
      cases h
      have hQ' : ∀ a' w', RelS w0 M0 θ0 σ0 base (env, σ) a' w' → Q .normal a' w' := fun a' w' hr' => hQ a' w' hr'.clear
      cases d with
      | false => exact wp_region (text_sound (Rel := RelS w0 M0 θ0 σ0 base) (fun j s m a w K h1 h2 h3 => step_sound hC h1 h2 h3) hQ' hrun (hr.free _))
      | true =>
        refine wp_region_any hm (draw_sound (Rel := RelS w0 M0 θ0 σ0 base) (regionOk_spec (by rw [Bool.not_true, Bool.false_or] at hok; exact hok)) (fun j s m a w K h1 h2 h3 => step_sound hC h1 h2 h3) (fun i j hij hind s s1 s2 h1 h2 => ?_) hQ' hrun (hr.free _).drew)
        cases hx : ops[i]? with
        | none =>
          refine ⟨s2, ?_, ?_⟩
          · unfold stepA at h1; rw [Array.getElem?_toList, hx] at h1; cases h1; exact h2
          · unfold stepA; rw [Array.getElem?_toList, hx]
        | some x =>
          cases hy : ops[j]? with
          | none =>
            refine ⟨s, ?_, ?_⟩
            · unfold stepA; rw [Array.getElem?_toList, hy]
            · unfold stepA at h2; rw [Array.getElem?_toList, hy] at h2; cases h2; exact h1
          | some y => exact swapI hp hg (by rw [Array.getElem?_toList]; exact hx) (by rw [Array.getElem?_toList]; exact hy) (hind x y hx hy) h1 h2
    · cases h
  · cases h

/-! Code. -/

def Out.toExit : Out → Exit
  | .normal => .normal
  | .exit i => .exit i
  | .ret => .ret

theorem cond_sound {s : S} {a : Act} {w : World} {c : Operand} {t : Bool} (hr : RelS w0 M0 θ0 σ0 base s a w) (h : lookV s.1 c = some (.bool t)) : a.eval c = .bool t := by
  obtain ⟨M, θ, π, he, hs, hf⟩ := hr.rel
  exact (lookV_sound hf h).rep.bool

theorem exec_sound {rg : Nat → Array Oper → Bool → S → Option S} {mk : Code → Option Out → Env → Option Env} {lp : (S → Option (Out × S)) → S → Option (Out × S)} {Rel : S → Act → World → Prop}
    (hrg : ∀ id ops d s s' a w Q, rg id ops d s = some s' → Rel s a w → (∀ a' w', Rel s' a' w' → Q Exit.normal a' w') → (Code.region id ops d).wp P Q a w)
    (hmk : ∀ c o e e' σ a w, mk c o e = some e' → Rel (e, σ) a w → Rel (e', σ) a w)
    (hlp : ∀ b s r, lp b s = some r → ∃ n, loopN b n s = some r)
    (hcd : ∀ (s : S) a w c t, Rel s a w → lookV s.1 c = some (.bool t) → a.eval c = .bool t) :
    ∀ (c : Code) {s s' : S} {out : Out} {a : Act} {w : World} {Q : Exit → Act → World → Prop}, execC rg mk lp c s = some (out, s') → Rel s a w → (∀ a' w', Rel s' a' w' → Q out.toExit a' w') → c.wp P Q a w := by
  intro c
  induction c with
  | skip => intro s s' out a w Q h hr hQ; cases h; exact wp_skip (hQ a w hr)
  | label l => intro s s' out a w Q h hr hQ; cases h; exact wp_label (hQ a w hr)
  | region id ops d =>
    intro s s' out a w Q h hr hQ
    unfold execC at h
    split at h
    · rename_i s1 h1; cases h; exact hrg id ops d s s' a w Q h1 hr hQ
    · cases h
  | seq x y ihx ihy =>
    intro s s' out a w Q h hr hQ
    unfold execC at h
    refine wp_seq ?_
    split at h
    · rename_i s1 h1
      exact ihx h1 hr fun a' w' hr' => ihy h hr' hQ
    · rename_i hne
      refine ihx h hr fun a' w' hr' => ?_
      cases out with
      | normal => exact absurd h (hne s')
      | exit i => exact hQ a' w' hr'
      | ret => exact hQ a' w' hr'
  | cond c x y ihx ihy =>
    intro s s' out a w Q h hr hQ
    unfold execC at h
    split at h
    · rename_i hc; exact wp_cond (hcd s a w c true hr hc) (ihx h hr hQ)
    · rename_i hc; exact wp_cond (hcd s a w c false hr hc) (ihy h hr hQ)
    · cases h
  | block id x ih =>
    intro s s' out a w Q h hr hQ
    unfold execC at h
    refine wp_block ?_
    split at h
    · rename_i i s1 h1
      split at h
      · rename_i hi
        cases h
        refine ih h1 hr fun a' w' hr' => ?_
        show Exit.inBlock id Q (.exit i) a' w'
        simp only [Exit.inBlock, hi, if_true]
        exact hQ a' w' hr'
      · rename_i hi
        cases h
        refine ih h1 hr fun a' w' hr' => ?_
        show Exit.inBlock id Q (.exit i) a' w'
        simp only [Exit.inBlock, hi, if_false]
        exact hQ a' w' hr'
    · rename_i hne
      refine ih h hr fun a' w' hr' => ?_
      cases out with
      | normal => exact hQ a' w' hr'
      | exit i => exact absurd h (hne i s')
      | ret => exact hQ a' w' hr'
  | loop x ih =>
    intro s s' out a w Q h hr hQ
    unfold execC at h
    split at h
    · rename_i out1 s1 h0
      split at h
      · rename_i e1 he1
        cases h
        have hQ' : ∀ a' w', Rel s1 a' w' → Q out.toExit a' w' := fun a' w' hr' => hQ a' w' (hmk _ _ _ _ _ _ _ he1 hr')
        obtain ⟨n, hn⟩ := hlp _ _ _ h0
        refine wp_loop_rounds n ?_
        clear h0
        induction n generalizing s a w with
        | zero => cases hn
        | succ n ihn =>
          rw [rounds_succ]
          unfold loopN at hn
          split at hn
          · rename_i s2 h1
            unfold roundA at h1
            split at h1
            · rename_i e he
              exact ih h1 (hmk _ _ _ _ _ _ _ he hr) fun a' w' hr' => ihn hr' hn
            · cases h1
          · rename_i hne
            unfold roundA at hn
            split at hn
            · rename_i e he
              refine ih hn (hmk _ _ _ _ _ _ _ he hr) fun a' w' hr' => ?_
              cases out with
              | normal =>
                exfalso
                refine hne s1 ?_
                unfold roundA; rw [he]; exact hn
              | exit i => exact hQ' a' w' hr'
              | ret => exact hQ' a' w' hr'
            · cases hn
      · cases h
    · cases h
  | exit id => intro s s' out a w Q h hr hQ; cases h; exact wp_exit (hQ a w hr)
  | ret => intro s s' out a w Q h hr hQ; cases h; exact wp_ret (hQ a w hr)
  | _ => intros; contradiction

end
end Go.Can

namespace Go.Can
open Go Go.RowKit
section
variable {P : Program} {w : World} {M M1 : Mem} {θ θ1 : Th} {σ σ1 : St} {π : Nat → Option Nat} {env : Env} {a : Act}

def resF (tmps : Array Value) : ResultVar → Sem Value
  | .tmp t => pure (tmps.getD t undef)
  | .cell a t => do loadVar t (← asAddr (tmps.getD a undef))

theorem results_eq (fn : Func) (tmps : Array Value) : results fn tmps = (do
    let vs ← fn.results.mapM (resF tmps)
    pure (if h : vs.size = 1 then vs[0] else .tuple vs)) := by
  unfold results
  congr 2

theorem res_sound (hs : StR w M θ σ) (hf : FrR w M θ σ π env a.tmps) : ∀ {rs : List ResultVar} {vs : List AV}, resOf P env σ rs = some vs →
    ∃ us : List Value, (rs.mapM (resF a.tmps)).run P w = .ok us w ∧ us.length = vs.length ∧
      ∀ (i : Nat) (v : AV), vs[i]? = some v → RepA M θ v (us.toArray.getD i undef)
  | [], vs, h => by cases h; exact ⟨[], by simp, rfl, by simp⟩
  | .tmp t :: rs, vs, h => by
    unfold resOf at h
    split at h
    · rename_i v vs' h1 h2
      cases h
      obtain ⟨us, k1, k2, k3⟩ := res_sound hs hf h2
      have hv := lookV_sound hf h1
      refine ⟨a.tmps.getD t undef :: us, by simp only [List.mapM_cons, resF, Sem.run_bind, Sem.run_pure, Result.andThen_ok, k1], by simp [k2], fun i x hx => ?_⟩
      cases i with
      | zero => simp at hx; subst hx; exact hv
      | succ i => simp at hx; simpa [Array.getD_eq_getD_getElem?] using k3 i x hx
    · cases h
  | .cell x t :: rs, vs, h => by
    unfold resOf at h
    split at h
    · rename_i v vs' h1 h2
      cases h
      obtain ⟨us, k1, k2, k3⟩ := res_sound hs hf h2
      obtain ⟨z, g, o, e1, e2, e3⟩ := load_run hs hf (look_sound hf (.tmp x)).1 h1
      have e1' : a.tmps.getD x undef = .pointer (some ⟨g, o, none⟩) := e1
      refine ⟨z :: us, by simp only [List.mapM_cons, resF, Sem.run_bind, Sem.run_pure, Result.andThen_ok, e1', asAddr, e2, k1], by simp [k2], fun i y hy => ?_⟩
      cases i with
      | zero => simp at hy; subst hy; exact e3
      | succ i => simp at hy; simpa [Array.getD_eq_getD_getElem?] using k3 i y hy
    · cases h

theorem lookV_notup {env : Env} {x : Operand} {v : AV} (h : lookV env x = some v) : ∀ vs, v ≠ .tup vs := by
  unfold lookV Slot.v at h
  intro vs e
  subst e
  split at h
  · cases h
  · rename_i hv _
    cases h
    exact hv vs rfl
  · cases h

theorem results_sound {fn : Func} {vs : List AV} (hs : StR w M θ σ) (hf : FrR w M θ σ π env a.tmps) (h : resOf P env σ fn.results.toList = some vs) :
    ∃ u, (results fn a.tmps).run P w = .ok u w ∧ Rep M θ (mkRes vs) u := by
  obtain ⟨us, h1, h2, h3⟩ := res_sound hs hf h
  have h4 : (fn.results.mapM (resF a.tmps)).run P w = .ok us.toArray w := by
    rw [Array.mapM_eq_mapM_toList, Sem.run_map, h1]; rfl
  rw [results_eq]
  refine ⟨if h : us.toArray.size = 1 then us.toArray[0] else .tuple us.toArray, ?_, ?_⟩
  · rw [Sem.run_bind]
    rw [h4]
    rfl
  · match vs, h2, h3 with
    | [], h2, h3 =>
      have : us = [] := List.eq_nil_of_length_eq_zero h2
      subst this
      exact ⟨#[], rfl, rfl, by simp⟩
    | [v], h2, h3 =>
      have hsz : us.toArray.size = 1 := by simp [h2]
      rw [dif_pos hsz]
      have := h3 0 v rfl
      have e : us.toArray.getD 0 undef = us.toArray[0] := by simp [Array.getD_eq_getD_getElem?, h2]
      rw [e] at this
      exact this.rep
    | v :: v' :: vs, h2, h3 =>
      have hsz : us.toArray.size ≠ 1 := by simp [h2]
      rw [dif_neg hsz]
      exact ⟨us.toArray, rfl, by simp [h2], h3⟩

/-! Freezing: the objects of the function's own go out of the small heap; what they hold stays as it is. -/

/-- Behind the function's end: only the objects below 'n' are left. -/
def Th.cut (θ : Th) (n : Nat) : Th := ⟨fun id gen => if id < n then θ.tr id gen else none, fun id => if id < n then θ.tc id else none⟩

open Classical in
noncomputable def memOf (w1 : World) (M1 : Mem) (θ1 : Th) (σ1 : St) (n : Nat) : Mem := fun g o =>
  if ∃ id, n ≤ id ∧ OwnAt θ1 σ1 id g then w1.cell? ⟨g, o, none⟩ else M1 g o

theorem memOf_le {w1 : World} {n : Nat} (hs : StR w1 M1 θ1 σ1) : M1.le (memOf w1 M1 θ1 σ1 n) := fun g o v h => by
  unfold memOf
  split
  · rename_i hex
    obtain ⟨id, _, ho⟩ := hex
    have := hs.out g ⟨id, ho⟩ o
    rw [this] at h; cases h
  · exact h

/-- A cell that was related before the call names no object of the call's own. -/
theorem Cell.cut {M2 : Mem} {n : Nat} (hfar : ∀ id, n ≤ id → (∀ gen, θ.tr id gen = none) ∧ θ.tc id = none) (hM : M1.le M2) {v : AV} {u1 : Value} (h1 : Cell M1 θ1 v u1) : ∀ {u0 : Value}, Cell M θ v u0 → Cell M2 (θ1.cut n) v u1 := by
  have lt_r : ∀ {id gen x}, θ.tr id gen = some x → id < n := fun {id gen x} h => Decidable.byContradiction fun hn => by
    rw [(hfar id (by omega)).1 gen] at h; cases h
  have lt_c : ∀ {id x}, θ.tc id = some x → id < n := fun {id x} h => Decidable.byContradiction fun hn => by
    rw [(hfar id (by omega)).2] at h; cases h
  induction h1 with
  | int k n => intro u0 _; exact .int k n
  | bool b => intro u0 _; exact .bool b
  | str s => intro u0 _; exact .str s
  | nilp => intro u0 _; exact .nilp
  | nilf => intro u0 _; exact .nilf
  | nili => intro u0 _; exact .nili
  | list full sz xs a cap u hc hm hf hs ha he ih =>
    intro u0 h0
    cases h0 with
    | list _ _ _ a0 cap0 u0 hc0 hm0 hf0 hs0 ha0 he0 =>
      refine .list full sz xs a cap u hc hm hf hs (fun hne => ?_) fun i x hx j c hj => ih i x hx j c hj (he0 i x hx j c hj)
      obtain ⟨g, o, e, h⟩ := ha hne
      exact ⟨g, o, e, fun i x hx j c hj => hM _ _ _ (h i x hx j c hj)⟩
  | row sz id gen off len lim a cap' cap b ht q1 hg hm hb hc ha =>
    intro u0 h0
    cases h0 with
    | row _ _ _ _ _ _ a0 cap0 cap1 b0 ht0 =>
      exact .row sz id gen off len lim a cap' cap b (by simp only [Th.cut, lt_r ht0, if_true]; exact ht) q1 hg hm hb hc ha
  | elm s sz i off g o len cap _ hi ih =>
    intro u0 h0
    cases h0 with
    | elm _ _ _ _ g0 o0 len0 cap0 hs0 hi0 => exact .elm s sz i off g o len cap (ih hs0) hi
  | ptr id off g h =>
    intro u0 h0
    cases h0 with
    | ptr _ _ g0 h00 => exact .ptr id off g (by simp only [Th.cut, lt_c h00, if_true]; exact h)
  | mapN => intro u0 _; exact .mapN
  | mapS id g h =>
    intro u0 h0
    cases h0 with
    | mapS _ g0 h00 => exact .mapS id g (by simp only [Th.cut, lt_c h00, if_true]; exact h)
  | fn f fi ca fu cu q1 q2 _ _ ih1 ih2 =>
    intro u0 h0
    cases h0 with
    | fn _ _ _ fu0 cu0 _ _ hf0 hc0 => exact .fn f fi ca fu cu q1 q2 (fun i c hi => ih1 i c hi (hf0 i c hi)) (fun i c hi => ih2 i c hi (hc0 i c hi))

theorem RepA.cut {M2 : Mem} {n : Nat} (hfar : ∀ id, n ≤ id → (∀ gen, θ.tr id gen = none) ∧ θ.tc id = none) (hM : M1.le M2) {v : AV} {u1 u0 : Value} (h1 : RepA M1 θ1 v u1) (h0 : RepA M θ v u0) : RepA M2 (θ1.cut n) v u1 := by
  by_cases hv : ∃ cs, v = .agg cs
  · obtain ⟨cs, rfl⟩ := hv
    obtain ⟨us, rfl, k1, k2⟩ := h1
    obtain ⟨us0, _, k3, k4⟩ := h0
    exact ⟨us, rfl, k1, fun i c hi => (k2 i c hi).cut hfar hM (k4 i c hi)⟩
  · exact (Cell.cut hfar hM (h1.cell fun cs e => hv ⟨cs, e⟩) (h0.cell fun cs e => hv ⟨cs, e⟩)).repA

theorem own_cut {n g : Nat} (h : Own (θ1.cut n) σ g) (hk : ∀ id, id < n → σ1[id]? = σ[id]?) : ∃ id, id < n ∧ OwnAt θ1 σ1 id g := by
  obtain ⟨id, h⟩ := h
  unfold OwnAt at h
  have key : ∀ (hlt : id < n), (match σ[id]? with | some (.row _ xs) => ∃ cap s, θ1.tr id xs.length = some (some g, cap, s) | some (.cells _) | some (.map _) => θ1.tc id = some g | _ => False) → ∃ id, id < n ∧ OwnAt θ1 σ1 id g := fun hlt hh => ⟨id, hlt, by unfold OwnAt; rw [hk id hlt]; exact hh⟩
  by_cases hlt : id < n
  · refine key hlt ?_
    simp only [Th.cut, hlt, if_true] at h
    exact h
  · exfalso
    simp only [Th.cut, hlt, if_false] at h
    split at h
    · obtain ⟨_, _, h⟩ := h; cases h
    · cases h
    · cases h
    · exact h

theorem ownAt_cut {n g id : Nat} (h : OwnAt (θ1.cut n) σ id g) (hk : ∀ id, id < n → σ1[id]? = σ[id]?) : id < n ∧ OwnAt θ1 σ1 id g := by
  unfold OwnAt at h
  by_cases hlt : id < n
  · refine ⟨hlt, ?_⟩
    unfold OwnAt
    rw [hk id hlt]
    simp only [Th.cut, hlt, if_true] at h
    exact h
  · exfalso
    simp only [Th.cut, hlt, if_false] at h
    split at h
    · obtain ⟨_, _, h⟩ := h; cases h
    · cases h
    · cases h
    · exact h

theorem cut_state {w1 : World} (h0 : StR w M θ σ) (h1 : StR w1 M1 θ1 σ1) (he : Ext0 w M θ σ w1 M1 θ1 σ1) (hk : ∀ id, id < σ.length → σ1[id]? = σ[id]?) :
    Ext0 w M θ σ w1 (memOf w1 M1 θ1 σ1 σ.length) (θ1.cut σ.length) σ ∧ StR w1 (memOf w1 M1 θ1 σ1 σ.length) (θ1.cut σ.length) σ := by
  have hM := memOf_le (n := σ.length) h1
  have hlt_r : ∀ {id gen x}, θ.tr id gen = some x → id < σ.length := fun {id gen x} h => Decidable.byContradiction fun hn => by
    rw [(h0.far id (by omega)).1 gen] at h; cases h
  have hlt_c : ∀ {id x}, θ.tc id = some x → id < σ.length := fun {id x} h => Decidable.byContradiction fun hn => by
    rw [(h0.far id (by omega)).2] at h; cases h
  refine ⟨⟨he.os, he.tape, he.output, he.size, Mem.le_trans he.m hM, ⟨fun id gen x h => ?_, fun id g h => ?_⟩, he.block, fun g hg => ?_, fun s g hs => (by cases hs), fun g o v hv => ?_⟩, ?_⟩
  · simp only [Th.cut, hlt_r h, if_true]; exact he.t.tr _ _ _ h
  · simp only [Th.cut, hlt_c h, if_true]; exact he.t.tc _ _ h
  · obtain ⟨id, _, h⟩ := own_cut hg hk
    exact he.own g ⟨id, h⟩
  · unfold memOf at hv
    split at hv
    · rename_i hex
      obtain ⟨id, _, h⟩ := hex
      rcases he.own g ⟨id, h⟩ with h2 | h2
      · exact .inr (.inr h2)
      · exact .inr (.inl h2)
    · exact he.dom g o v hv
  · refine ⟨fun g o v hv => ?_, fun id x hx => ?_, fun i j g hi hj => h1.dis i j g (ownAt_cut hi hk).2 (ownAt_cut hj hk).2, fun g hg o => ?_, fun id hid => ⟨fun gen => by simp only [Th.cut, Nat.not_lt.2 hid, if_false], by simp only [Th.cut, Nat.not_lt.2 hid, if_false]⟩⟩
    · unfold memOf at hv
      split at hv
      · exact hv
      · exact h1.mem g o v hv
    · have hlt : id < σ.length := (List.getElem?_eq_some_iff.1 hx).1
      have a0 := h0.ob id x hx
      have a1 := h1.ob id x (by rw [hk id hlt]; exact hx)
      have etr : ∀ gen, (θ1.cut σ.length).tr id gen = θ1.tr id gen := fun gen => by simp only [Th.cut, hlt, if_true]
      have etc : (θ1.cut σ.length).tc id = θ1.tc id := by simp only [Th.cut, hlt, if_true]
      cases x with
      | none => exact ⟨fun gen => by rw [etr]; exact a1.1 gen, by rw [etc]; exact a1.2⟩
      | row sz xs =>
        obtain ⟨_, _, _, _, b0, cap0, _, _, _, c0⟩ := a0
        obtain ⟨b1, b2, b3, b4, b, cap, b5, b6, b7, b8⟩ := a1
        refine ⟨by rw [etc]; exact b1, fun gen y hy => b2 gen y (by rw [← etr]; exact hy), b3, b4, b, cap, by rw [etr]; exact b5, b6, b7, ?_⟩
        cases b with
        | none => exact b8
        | some g =>
          obtain ⟨cur, e, b9, b10, b11⟩ := b8
          refine ⟨cur, e, b9, b10, fun i y hy j c hj => ?_⟩
          have h2 := b11 i y hy j c hj
          cases b0 with
          | none => obtain ⟨rfl, _⟩ := c0; simp at hy
          | some g0 =>
            obtain ⟨cur0, e0, _, _, c1⟩ := c0
            exact h2.cut h0.far hM (c1 i y hy j c hj)
      | cells cs =>
        obtain ⟨_, g0, cur0, e0, _, _, c1⟩ := a0
        obtain ⟨b1, g, cur, e, b2, b3, b4⟩ := a1
        exact ⟨fun gen => by rw [etr]; exact b1 gen, g, cur, e, by rw [etc]; exact b2, b3, b4.1, fun i c hi => (b4.2 i c hi).cut h0.far hM (c1.2 i c hi)⟩
      | map es =>
        obtain ⟨_, g0, us0, cl0, _, _, c1, _⟩ := a0
        obtain ⟨b1, g, us, cl, b2, b3, b4, bn⟩ := a1
        refine ⟨fun gen => by rw [etr]; exact b1 gen, g, us, cl, by rw [etc]; exact b2, b3, ⟨b4.1, fun i k v hi => ?_⟩, bn⟩
        obtain ⟨e, k1, k2, k3⟩ := b4.2 i k v hi
        obtain ⟨e', k1', k2', k3'⟩ := c1.2 i k v hi
        exact ⟨e, k1, k2.cut h0.far hM k2', k3.cut h0.far hM k3'⟩
    · obtain ⟨id, hid, ho⟩ := own_cut hg hk
      unfold memOf
      rw [if_neg]
      · exact h1.out g ⟨id, ho⟩ o
      · rintro ⟨id', hid', ho'⟩
        have := h1.dis _ _ _ ho ho'
        omega

/-- One element's cells, as a value. -/
theorem cells_value {x : AV} (f : Nat → Value) (h : ∀ j c, x.cells[j]? = some c → Cell M θ c (f j)) : ∃ u, RepA M θ x u ∧ u.cells.size = x.cells.length ∧ ∀ j, j < x.cells.length → u.cells.getD j undef = f j := by
  by_cases hx : ∃ cs, x = .agg cs
  · obtain ⟨cs, rfl⟩ := hx
    have e : (AV.agg cs).cells = cs := rfl
    rw [e] at *
    have hg : ∀ j, j < cs.length → ((List.range cs.length).map f).toArray.getD j undef = f j := fun j hj => by simp [Array.getD_eq_getD_getElem?, hj]
    refine ⟨.agg ((List.range cs.length).map f).toArray, ⟨_, rfl, by simp, fun i c hi => ?_⟩, by simp [Value.cells], fun j hj => hg j hj⟩
    have hlt := (List.getElem?_eq_some_iff.1 hi).1
    rw [hg i hlt]
    exact h i c hi
  · have e : x.cells = [x] := by cases x <;> first | rfl | exact absurd ⟨_, rfl⟩ hx
    have h0 := h 0 x (by rw [e]; rfl)
    have h1 := h0.repA.cells
    refine ⟨f 0, h0.repA, h1.1, fun j hj => ?_⟩
    rw [e] at hj
    simp at hj
    subst hj
    have : (f 0).cells = #[f 0] := by
      generalize f 0 = z at h0
      cases h0 <;> rfl
    rw [this]; rfl

theorem freezeL_spec {fz : AV → Option AV} : ∀ {xs ys : List AV}, freezeL fz xs = some ys → ys.length = xs.length ∧ ∀ (i : Nat) (y : AV), ys[i]? = some y → ∃ x, xs[i]? = some x ∧ fz x = some y
  | [], ys, h => by cases h; exact ⟨rfl, fun i y h => by simp at h⟩
  | x :: xs, ys, h => by
    unfold freezeL at h
    split at h
    · rename_i b bs h1 h2
      cases h
      obtain ⟨k1, k2⟩ := freezeL_spec h2
      refine ⟨by simp [k1], fun i y hy => ?_⟩
      cases i with
      | zero => simp at hy; subst hy; exact ⟨x, rfl, h1⟩
      | succ i => exact k2 i y (by simpa using hy)
    · cases h

theorem list_freeze {M2 : Mem} {θ2 : Th} {fz : AV → Option AV} (ih : ∀ v v' u, fz v = some v' → RepA M1 θ1 v u → RepA M2 θ2 v' u) {full : Bool} {sz : Nat} {xs xs' : List AV} {ad : Option Addr} {cap : Nat} {u : Nat → Nat → Value}
    (hz : freezeL fz xs = some xs') (hc : xs.length ≤ cap) (hm : cap ≤ maxLen) (hf : full = true → cap = xs.length) (hs : ∀ x ∈ xs, x.cells.length = sz)
    (ha : xs ≠ [] → ∃ g o, ad = some ⟨g, o, none⟩ ∧ ∀ i x, xs[i]? = some x → ∀ j c, x.cells[j]? = some c → M2 g (o + (i * sz + j)) = some (u i j))
    (he : ∀ i x, xs[i]? = some x → ∀ j c, x.cells[j]? = some c → Cell M1 θ1 c (u i j)) : Cell M2 θ2 (.list full sz xs') (.slice ad xs.length cap) := by
  obtain ⟨k1, k2⟩ := freezeL_spec hz
  have key : ∀ i y, xs'[i]? = some y → ∃ x, xs[i]? = some x ∧ y.cells.length = sz ∧ ∀ j c, y.cells[j]? = some c → Cell M2 θ2 c (u i j) := fun i y hy => by
    obtain ⟨x, hx, hxy⟩ := k2 i y hy
    obtain ⟨uv, h1, h2, h3⟩ := cells_value (u i) (he i x hx)
    have h4 := (ih _ _ _ hxy h1).cells
    have hxs := hs x (List.mem_of_getElem? hx)
    have h5 : y.cells.length = sz := by rw [← h4.1, h2, hxs]
    refine ⟨x, hx, h5, fun j c hj => ?_⟩
    have := h4.2 j c hj
    rw [h3 j (by rw [hxs, ← h5]; exact (List.getElem?_eq_some_iff.1 hj).1)] at this
    exact this
  rw [← k1]
  refine .list full sz xs' ad cap u (by omega) hm (fun h => by rw [k1]; exact hf h) (fun y hy => ?_) (fun hne => ?_) fun i y hy j c hj => ?_
  · obtain ⟨i, hi, rfl⟩ := List.getElem_of_mem hy
    obtain ⟨_, _, h, _⟩ := key i _ (List.getElem?_eq_getElem hi)
    exact h
  · obtain ⟨g, o, e, h⟩ := ha (fun e => hne (List.eq_nil_of_length_eq_zero (by rw [k1, e]; rfl)))
    refine ⟨g, o, e, fun i y hy j c hj => ?_⟩
    obtain ⟨x, hx, h5, _⟩ := key i y hy
    have hxs := hs x (List.mem_of_getElem? hx)
    have hj' : j < x.cells.length := by rw [hxs, ← h5]; exact (List.getElem?_eq_some_iff.1 hj).1
    exact h i x hx j _ (List.getElem?_eq_getElem hj')
  · obtain ⟨_, _, _, h⟩ := key i y hy
    exact h j c hj

theorem cells_freeze {M2 : Mem} {θ2 : Th} {fz : AV → Option AV} (ih : ∀ v v' u, fz v = some v' → RepA M1 θ1 v u → RepA M2 θ2 v' u) {xs xs' : List AV} {us : Array Value} (hz : freezeL fz xs = some xs')
    (hc : CellsR M1 θ1 xs us) : us.size = xs'.length ∧ ∀ i c, xs'[i]? = some c → RepA M2 θ2 c (us.getD i undef) := by
  obtain ⟨k1, k2⟩ := freezeL_spec hz
  refine ⟨by rw [hc.1, k1], fun i c hi => ?_⟩
  obtain ⟨x, hx, hxy⟩ := k2 i c hi
  exact ih _ _ _ hxy (hc.2 i x hx).repA

theorem freeze_noagg {n : Nat} : ∀ {k : Nat} {v v' : AV}, freeze n σ1 k v = some v' → (∀ cs, v ≠ .agg cs) → ∀ cs, v' ≠ .agg cs := by
  intro k v v' h hv cs e
  subst e
  cases k with
  | zero => cases h
  | succ k =>
    unfold freeze at h
    split at h
    case h_9 cs' => exact hv _ rfl
    all_goals first
      | (cases h; done)
      | (simp only [Option.map_eq_some_iff] at h; obtain ⟨_, _, h⟩ := h; cases h; done)
      | (cases h; exact hv _ rfl)
      | ((repeat' split at h) <;> first | (cases h; done) | (simp only [Option.map_eq_some_iff] at h; obtain ⟨_, _, h⟩ := h; cases h; done))

theorem freeze_sound {w1 : World} {n : Nat} (h1 : StR w1 M1 θ1 σ1) : ∀ {k : Nat} {v v' : AV} {u : Value}, freeze n σ1 k v = some v' → RepA M1 θ1 v u → RepA (memOf w1 M1 θ1 σ1 n) (θ1.cut n) v' u := by
  have hM := memOf_le (n := n) h1
  intro k
  induction k with
  | zero => intro v v' u h; cases h
  | succ k ih =>
    intro v v' u h hr
    have ih' : ∀ v v' u, freeze n σ1 k v = some v' → RepA M1 θ1 v u → RepA (memOf w1 M1 θ1 σ1 n) (θ1.cut n) v' u := fun v v' u => ih
    unfold freeze at h
    cases v with
    | int k q => cases h; cases hr; exact Cell.int _ _
    | bool b => cases h; cases hr; exact Cell.bool _
    | str s => cases h; cases hr; exact Cell.str _
    | nilp => cases h; cases hr; exact Cell.nilp
    | nilf => cases h; cases hr; exact Cell.nilf
    | nili => cases h; cases hr; exact Cell.nili
    | agg cs =>
      simp only [Option.map_eq_some_iff] at h
      obtain ⟨cs', h2, rfl⟩ := h
      obtain ⟨us, rfl, hc⟩ := hr
      obtain ⟨k1, k2⟩ := cells_freeze ih' h2 hc
      refine ⟨us, rfl, k1, fun i c hi => (k2 i c hi).cell ?_⟩
      obtain ⟨_, k4⟩ := freezeL_spec h2
      obtain ⟨x, hx, hxy⟩ := k4 i c hi
      exact freeze_noagg hxy fun cs e => by subst e; exact (hc.2 i _ hx).not_agg
    | tup vs => exact (Cell.not_tup hr).elim
    | list full sz xs =>
      simp only [Option.map_eq_some_iff] at h
      obtain ⟨xs', h2, rfl⟩ := h
      have hr' : Cell M1 θ1 (.list full sz xs) u := hr
      cases hr' with
      | list _ _ _ a cap u hc hm hf hs ha he =>
        refine list_freeze ih' h2 hc hm hf hs (fun hne => ?_) he
        obtain ⟨g, o, e, h⟩ := ha hne
        exact ⟨g, o, e, fun i x hx j c hj => hM _ _ _ (h i x hx j c hj)⟩
    | row sz id gen off len lim =>
      have hr' : Cell M1 θ1 (.row sz id gen off len lim) u := hr
      cases hr' with
      | row _ _ _ _ _ _ ad cap' cap b ht q1 hg hm hb hc ha =>
        simp only at h
        split at h
        · rename_i hlt
          cases h
          exact Cell.row sz id gen off len lim ad cap' cap b (by simp only [Th.cut, hlt, if_true]; exact ht) q1 hg hm hb hc ha
        · rename_i hge
          split at h
          · rename_i xs hxs
            simp only [Option.map_eq_some_iff] at h
            obtain ⟨xs', h2, rfl⟩ := h
            simp only [elems] at hxs
            split at hxs
            · rename_i s2 ys hob
              split at hxs
              · rename_i hcond
                cases hxs
                simp only [Bool.and_eq_true, beq_iff_eq] at hcond
                obtain ⟨_, hgen⟩ := hcond
                obtain ⟨_, _, d3, d4, b', cap1, d5, d6, d7, d8⟩ := h1.ob _ _ hob
                rw [← hgen, ht] at d5
                simp only [Option.some.injEq, Prod.mk.injEq] at d5
                obtain ⟨rfl, rfl, rfl⟩ := d5
                have hlen : ((ys.drop off).take len).length = len := by simp; omega
                have hcl : len ≤ cap' := by rw [hc]; split <;> omega
                have hcm : cap' ≤ maxLen := by rw [hc]; split <;> omega
                have helem : ∀ i x, ((ys.drop off).take len)[i]? = some x → i < len ∧ ys[off + i]? = some x := fun i x hx => by
                  have hi : i < len := by rw [← hlen]; exact (List.getElem?_eq_some_iff.1 hx).1
                  rw [List.getElem?_take_of_lt hi, List.getElem?_drop] at hx
                  exact ⟨hi, hx⟩
                cases b with
                | none =>
                  obtain ⟨rfl, _⟩ := d8
                  simp at h2 hlen
                  subst hlen
                  simp [freezeL] at h2
                  subst h2
                  exact Cell.list false _ [] ad cap' (fun _ _ => undef) (by simp) hcm (by simp) (by simp) (by simp) (by simp)
                | some g =>
                  obtain ⟨cur, e, e1, e2, e3⟩ := d8
                  have := list_freeze (M2 := memOf w1 M1 θ1 σ1 n) (θ2 := θ1.cut n) (full := false) (ad := ad) (cap := cap') (u := fun i j => cur.getD ((off + i) * sz + j) undef) ih' h2 (by rw [hlen]; exact hcl) hcm (by simp)
                    (fun x hx => d4 x (List.mem_of_mem_drop (List.mem_of_mem_take hx))) (fun hne => ?_) (fun i x hx j c hj => ?_)
                  · rw [hlen] at this; exact this
                  · have hpos : 0 < len := by
                      rcases Nat.eq_zero_or_pos len with h0 | h0
                      · exact absurd (List.eq_nil_of_length_eq_zero (by rw [hlen]; exact h0)) hne
                      · exact h0
                    rcases ha with ha | ⟨g', hb', ha⟩
                    · omega
                    · cases hb'
                      refine ⟨g, off * sz, ha, fun i x hx j c hj => ?_⟩
                      obtain ⟨hi, hy⟩ := helem i x hx
                      have hj' : j < sz := by rw [← d4 x (List.mem_of_getElem? hy)]; exact (List.getElem?_eq_some_iff.1 hj).1
                      have hyl : off + i < ys.length := (List.getElem?_eq_some_iff.1 hy).1
                      have hidx : (off + i) * sz + j < cur.size := by
                        rw [e2]
                        have q2 : (off + i + 1) * sz ≤ cap * sz := Nat.mul_le_mul_right _ (by omega)
                        rw [Nat.add_mul (off + i) 1, Nat.one_mul] at q2
                        omega
                      have hex : ∃ id', n ≤ id' ∧ OwnAt θ1 σ1 id' g := ⟨id, by omega, by unfold OwnAt; rw [hob]; exact ⟨cap, sz, by rw [← hgen]; exact ht⟩⟩
                      unfold memOf
                      rw [if_pos hex]
                      have e4 : off * sz + (i * sz + j) = (off + i) * sz + j := by rw [Nat.add_mul]; omega
                      rw [e4]
                      simp only [World.cell?, e1]
                      simp [Array.getD_eq_getD_getElem?, hidx]
                  · obtain ⟨hi, hy⟩ := helem i x hx
                    exact e3 (off + i) x hy j c hj
              · cases hxs
            · cases hxs
          · cases h
    | elm s sz i off => cases h
    | ptr id off =>
      simp only at h
      split at h
      · rename_i hlt
        cases h
        have hr' : Cell M1 θ1 (.ptr id off) u := hr
        cases hr' with
        | ptr _ _ g hg => exact Cell.ptr id off g (by simp only [Th.cut, hlt, if_true]; exact hg)
      · cases h
    | map r =>
      cases r with
      | none => cases h; cases hr; exact Cell.mapN
      | some id =>
        simp only at h
        split at h
        · rename_i hlt
          cases h
          have hr' : Cell M1 θ1 (.map (some id)) u := hr
          cases hr' with
          | mapS _ g hg => exact Cell.mapS id g (by simp only [Th.cut, hlt, if_true]; exact hg)
        · cases h
    | fn f fi ca =>
      cases fi with
      | cons _ _ => cases h
      | nil =>
        cases ca with
        | cons _ _ => cases h
        | nil =>
          cases h
          have hr' : Cell M1 θ1 (.fn f [] []) u := hr
          cases hr' with
          | fn _ _ _ fu cu q1 q2 q3 q4 => exact Cell.fn f [] [] fu cu q1 q2 (by simp) (by simp)

theorem freeze_rep {w1 : World} {n : Nat} (h1 : StR w1 M1 θ1 σ1) {k : Nat} {v v' : AV} {u : Value} (h : freeze n σ1 k v = some v') (hr : Rep M1 θ1 v u) : Rep (memOf w1 M1 θ1 σ1 n) (θ1.cut n) v' u := by
  cases k with
  | zero => cases h
  | succ k =>
    by_cases hv : ∃ vs, v = .tup vs
    · obtain ⟨vs, rfl⟩ := hv
      unfold freeze at h
      simp only [Option.map_eq_some_iff] at h
      obtain ⟨vs', h2, rfl⟩ := h
      obtain ⟨us, rfl, k1, k2⟩ := hr
      obtain ⟨k3, k4⟩ := freezeL_spec h2
      refine ⟨us, rfl, by rw [k1, k3], fun i c hi => ?_⟩
      obtain ⟨x, hx, hxy⟩ := k4 i c hi
      exact freeze_sound h1 hxy (k2 i x hx)
    · exact (freeze_sound h1 h (hr.repA fun vs e => hv ⟨vs, e⟩)).rep

end
end Go.Can

namespace Go.Can
open Go Go.RowKit

/-- What the functions that stand for themselves owe. -/
structure PrimOk (P : Program) (cf : Cfg) : Prop where
  sim : ∀ f p args σ base r σ', cf.prim f = some p → base ≤ σ.length → p args σ base = some (r, σ') → CallR P f args σ r σ'
  keep : ∀ f p args σ base r σ', cf.prim f = some p → base ≤ σ.length → p args σ base = some (r, σ') → Keep base σ σ'
  pure : ∀ f p args σ base r σ', cf.prim f = some p → cf.pure f = true → p args σ base = some (r, σ') → σ' = σ
  grow : ∀ f p args σ base r σ', cf.prim f = some p → cf.grow f = true → p args σ base = some (r, σ') → Sup σ σ'

section
variable {P : Program} {C : CallF} {cf : Cfg}

theorem stepA_keep {base : Nat} {isv : Tmp → Bool} {bs : Tmp → Option Tmp} {ops : List Oper} {n0 i : Nat} {s m : S} (hC : CallOk P C) (hb : base ≤ s.2.length) (h : stepA P C base isv bs ops n0 i s = some m) : Keep base s.2 m.2 := by
  unfold stepA at h
  split at h
  · cases h; exact Keep.refl _ _
  · split at h
    · split at h
      · split at h
        · rename_i hev; cases h; exact evalOp_keep hC hb hev
        · cases h
      · cases h; exact Keep.refl _ _
      · cases h
    · cases h

theorem runA_keep {base : Nat} {step : Nat → S → Option S} (hst : ∀ i s m, base ≤ s.2.length → step i s = some m → Keep base s.2 m.2) : ∀ {l : List Nat} {s m : S}, base ≤ s.2.length → runA step l s = some m → Keep base s.2 m.2
  | [], s, m, _, h => by cases h; exact Keep.refl _ _
  | i :: l, s, m, hb, h => by
    unfold runA at h
    split at h
    · rename_i s1 h1
      have k := hst i s s1 hb h1
      exact k.trans (runA_keep hst (Nat.le_trans hb k.1) h)
    · cases h

theorem regionA_keep {base : Nat} {f : FuncId} {id : Nat} {ops : Array Oper} {d : Bool} {s s' : S} (hC : CallOk P C) (hb : base ≤ s.2.length) (h : regionA P cf C base f id ops d s = some s') : Keep base s.2 s'.2 := by
  unfold regionA at h
  simp only at h
  split at h
  · split at h
    · rename_i env σ hrun
      cases h
      have k := runA_keep (base := base) (fun i s m hb h => stepA_keep hC hb h) (by simp; omega) hrun
      exact (Keep.app s.2 _ hb).trans k
    · cases h
  · cases h

theorem exec_keep {base : Nat} {rg : Nat → Array Oper → Bool → S → Option S} {mk : Code → Option Out → Env → Option Env} {lp : (S → Option (Out × S)) → S → Option (Out × S)}
    (hrg : ∀ id ops d s s', base ≤ s.2.length → rg id ops d s = some s' → Keep base s.2 s'.2) (hlp : ∀ b s r, lp b s = some r → ∃ n, loopN b n s = some r) :
    ∀ (c : Code) {s s' : S} {out : Out}, execC rg mk lp c s = some (out, s') → base ≤ s.2.length → Keep base s.2 s'.2 := by
  intro c
  induction c with
  | skip => intro s s' out h hb; cases h; exact Keep.refl _ _
  | label l => intro s s' out h hb; cases h; exact Keep.refl _ _
  | exit l => intro s s' out h hb; cases h; exact Keep.refl _ _
  | ret => intro s s' out h hb; cases h; exact Keep.refl _ _
  | region id ops d =>
    intro s s' out h hb
    unfold execC at h
    split at h
    · rename_i s1 h1; cases h; exact hrg _ _ _ _ _ hb h1
    · cases h
  | seq x y ihx ihy =>
    intro s s' out h hb
    unfold execC at h
    split at h
    · rename_i s1 h1
      have k := ihx h1 hb
      exact k.trans (ihy h (Nat.le_trans hb k.1))
    · exact ihx h hb
  | cond c x y ihx ihy =>
    intro s s' out h hb
    unfold execC at h
    split at h
    · exact ihx h hb
    · exact ihy h hb
    · cases h
  | block id x ih =>
    intro s s' out h hb
    unfold execC at h
    split at h
    · rename_i i s1 h1
      split at h <;> (cases h; exact ih h1 hb)
    · exact ih h hb
  | loop x ih =>
    intro s s' out h hb
    unfold execC at h
    split at h
    · rename_i out1 s1 h0
      split at h
      · rename_i e1 he1
        cases h
        show Keep base s.2 s1.2
        obtain ⟨n, hn⟩ := hlp _ _ _ h0
        clear h0
        induction n generalizing s with
        | zero => cases hn
        | succ n ihn =>
          unfold loopN at hn
          split at hn
          · rename_i s2 h1
            unfold roundA at h1
            split at h1
            · have k := ih h1 hb
              exact k.trans (ihn (s := s2) (Nat.le_trans hb k.1) hn)
            · cases h1
          · unfold roundA at hn
            split at hn
            · rename_i e he; exact ih (s := (e, s.2)) hn hb
            · cases hn
      · cases h
    · cases h
  | _ => intros; contradiction

theorem loop_self : ∀ (n : Nat) (b : S → Option (Out × S)) (s : S) (r : Out × S), (fun (b : S → Option (Out × S)) s => loopN b n s) b s = some r → ∃ n, loopN b n s = some r := fun n b s r h => ⟨n, h⟩

theorem start_frame {w : World} {M : Mem} {θ : Th} {σ : St} {args : List AV} {vs : Array Value} (n : Nat) (ha : ArgsR M θ args vs) :
    FrR w M θ σ (fun _ => none) (args.map .val ++ List.replicate (n - args.length) .und) (vs ++ Array.replicate (n - vs.size) undef) := by
  refine ⟨by simp [ha.1], fun s sl hs => ?_, fun s g h => (by cases h), fun s t g h => (by cases h), fun s g h => (by cases h)⟩
  by_cases hlt : s < args.length
  · rw [List.getElem?_append_left (by simpa using hlt), List.getElem?_map] at hs
    have e : (vs ++ Array.replicate (n - vs.size) undef).getD s undef = vs.getD s undef := by
      simp only [Array.getD_eq_getD_getElem?]
      rw [Array.getElem?_append_left (by rw [ha.1]; exact hlt)]
    rw [e]
    cases hv : args[s]? with
    | none => rw [hv] at hs; cases hs
    | some v => rw [hv] at hs; cases hs; exact (ha.2 s v hv).rep
  · rw [List.getElem?_append_right (by simp; omega), List.getElem?_replicate] at hs
    split at hs
    · cases hs
      have : (vs ++ Array.replicate (n - vs.size) undef).getD s undef = undef := by
        simp only [Array.getD_eq_getD_getElem?]
        rw [Array.getElem?_append_right (by rw [ha.1]; omega), Array.getElem?_replicate]
        split <;> rfl
      exact this
    · cases hs

theorem body_sound (hm : P.follows .mixedOrders = true) (hC : CallOk P C) (hp : ∀ f args σ base r σ', cf.pure f = true → C f args σ base = some (r, σ') → σ' = σ) (hg : ∀ f args σ base r σ', cf.grow f = true → C f args σ base = some (r, σ') → Sup σ σ') {lp : (S → Option (Out × S)) → S → Option (Out × S)} (hlp : ∀ b s r, lp b s = some r → ∃ n, loopN b n s = some r)
    {f : FuncId} {fn : Func} {c : Code} {args : List AV} {σ σ' : St} {base : Nat} {r : AV} (hf : P.funcs[f]? = some fn) (hc : fn.body = some c) (hb : base ≤ σ.length) (h : bodyA P cf C lp f fn c args σ base = some (r, σ'))
    {w : World} {M : Mem} {θ : Th} {vs : Array Value} (hs : StR w M θ σ) (ha : ArgsR M θ args vs) :
    Keep base σ σ' ∧ Calls P f vs w fun e w' => ∃ v M' θ', e = .returned v ∧ Ext0 w M θ σ w' M' θ' σ' ∧ StR w' M' θ' σ' ∧ Rep M' θ' r v := by
  unfold bodyA at h
  have key : ∀ out s, execC (regionA P cf C base f) (fun c o e => maskA (fun t => (cf.live f c o).contains t) 0 e) lp c (args.map .val ++ List.replicate (fn.ntmps - args.length) .und, σ) = some (out, s) →
      (out = .normal ∨ out = .ret) → (match resOf P s.1 s.2 fn.results.toList with | some vs => some (mkRes vs, s.2) | none => none) = some (r, σ') →
      Keep base σ σ' ∧ Calls P f vs w fun e w' => ∃ v M' θ', e = .returned v ∧ Ext0 w M θ σ w' M' θ' σ' ∧ StR w' M' θ' σ' ∧ Rep M' θ' r v := by
    intro out s hex hout hres
    have hk := exec_keep (fun id ops d s s' hb h => regionA_keep hC hb h) hlp c hex hb
    split at hres
    · rename_i rs hrs
      cases hres
      refine ⟨hk, calls_of_wp hf hc ?_⟩
      refine exec_sound (Rel := RelS w M θ σ base) (fun id ops d s s' a w Q h1 h2 h3 => region_sound hm hC hp hg h1 h2 h3) (fun c o e e' σ a w h1 h2 => RelS.mask (s := (e, σ)) h2 h1) hlp (fun s a w c t h1 h2 => cond_sound h1 h2) c hex
        ⟨rfl, hb, M, θ, fun _ => none, Ext.refl _ _ _ _ _, hs, start_frame fn.ntmps ha⟩ fun a' w' hr' => ?_
      obtain ⟨M', θ', π', he, hs', hf'⟩ := hr'.rel
      obtain ⟨u, h1, h2⟩ := results_sound hs' hf' hrs
      have post : a'.defers = [] ∧ ∃ v, (results fn a'.tmps).run P w' = .ok v w' ∧ ∃ v' M' θ', Ending.returned v = .returned v' ∧ Ext0 w M θ σ w' M' θ' s.2 ∧ StR w' M' θ' s.2 ∧ Rep M' θ' (mkRes rs) v' :=
        ⟨hr'.defers, u, h1, u, M', θ', rfl, ⟨he.os, he.tape, he.output, he.size, he.m, he.t, he.block, he.own, fun s g h => (by cases h), he.dom⟩, hs', h2⟩
      rcases hout with rfl | rfl
      · exact post
      · exact post
    · cases hres
  split at h
  · rename_i s hex; exact key _ _ hex (.inl rfl) h
  · rename_i s hex; exact key _ _ hex (.inr rfl) h
  · cases h

/-- The functions with a body are entered. -/
def Enters (P : Program) : Prop := ∀ (f : FuncId) (fn : Func), P.funcs[f]? = some fn → fn.body.isSome = true → (fn.name == "runtime.NumGoroutine") = false

theorem enters_call (he : Enters P) {f : FuncId} {fn : Func} {c : Code} (hf : P.funcs[f]? = some fn) (hc : fn.body = some c) (w : World) (vs : Array Value) : (callFunc f vs).run P w = .ok (.enter f vs) w := by
  have h1 := he f fn hf (by rw [hc]; rfl)
  simp only [callFunc, Sem.run_bind, run_program, Result.andThen_ok, hf, h1, hc, Option.isNone_some, Bool.false_eq_true, if_false, Sem.run_pure]

/-- With nothing owned and no argument: what the call leaves is fixed memory, and new. -/
theorem lift_state {w w1 : World} {M M2 : Mem} {θ : Th} {σ : St} {n : Nat} {θ1 : Th} (h0 : StR w M θ σ) (he : Ext0 w M ⟨fun _ _ => none, fun _ => none⟩ [] w1 M2 (θ1.cut 0) []) (h2 : StR w1 M2 (θ1.cut 0) []) :
    Ext0 w M θ σ w1 M2 θ σ ∧ StR w1 M2 θ σ := by
  have hno : ∀ g, ¬ Own ⟨fun _ _ => none, fun _ => none⟩ [] g := by
    rintro g ⟨id, h⟩
    unfold OwnAt at h
    simp at h
  have hb : ∀ g, g < w.heap.size → w1.heap[g]? = w.heap[g]? := fun g hg => he.block g hg (hno g) (fun _ => by simp)
  refine ⟨⟨he.os, he.tape, he.output, he.size, he.m, θ.le_refl, fun g hg _ _ => hb g hg, fun g hg => .inl hg, fun s g hs => (by cases hs), fun g o v hv => ?_⟩, ⟨h2.mem, fun id x hx => (h0.ob id x hx).keep he.m hx fun g hg => hb g (hg.lt h0), h0.dis, fun g hg o => ?_, h0.far⟩⟩
  · rcases he.dom g o v hv with h | h | h
    · exact .inl h
    · exact .inr (.inl h)
    · exact absurd h (hno g)
  · cases hm : M2 g o with
    | none => rfl
    | some v =>
      rcases he.dom g o v hm with h | h | h
      · have := h0.out g hg o; rw [h] at this; cases this
      · obtain ⟨id, hid⟩ := hg
        have := hid.lt h0; omega
      · exact absurd h (hno g)

theorem cut_zero_le {θ θ1 : Th} : (θ1.cut 0).le θ := ⟨fun id gen x h => by simp [Th.cut] at h, fun id g h => by simp [Th.cut] at h⟩

structure CallGood (P : Program) (cf : Cfg) (C : CallF) : Prop where
  ok : CallOk P C
  pure : ∀ f args σ base r σ', cf.pure f = true → C f args σ base = some (r, σ') → σ' = σ
  grow : ∀ f args σ base r σ', cf.grow f = true → C f args σ base = some (r, σ') → Sup σ σ'

theorem Keep.sup {σ σ' : St} (h : Keep σ.length σ σ') : Sup σ σ' := fun k x hk _ => by rw [h.2 k (List.getElem?_eq_some_iff.1 hk).1]; exact hk
theorem Keep.down {b n : Nat} {σ σ' : St} (h : Keep n σ σ') (hb : b ≤ n) : Keep b σ σ' := ⟨h.1, fun i hi => h.2 i (by omega)⟩

theorem bodyA_keep {base : Nat} {lp : (S → Option (Out × S)) → S → Option (Out × S)} (hlp : ∀ b s r, lp b s = some r → ∃ n, loopN b n s = some r) {f : FuncId} {fn : Func} {c : Code} {args : List AV} {σ σ' : St} {r : AV} (hC : CallOk P C) (hb : base ≤ σ.length)
    (h : bodyA P cf C lp f fn c args σ base = some (r, σ')) : Keep base σ σ' := by
  unfold bodyA at h
  split at h
  · rename_i s hex
    have hk := exec_keep (fun id ops d s s' hb h => regionA_keep hC hb h) hlp c hex hb
    split at h
    · cases h; exact hk
    · cases h
  · rename_i s hex
    have hk := exec_keep (fun id ops d s s' hb h => regionA_keep hC hb h) hlp c hex hb
    split at h
    · cases h; exact hk
    · cases h
  · cases h

theorem enter_good (hm : P.follows .mixedOrders = true) (he : Enters P) (hp : PrimOk P cf) (hC : CallGood P cf C) {lp : (S → Option (Out × S)) → S → Option (Out × S)} (hlp : ∀ b s r, lp b s = some r → ∃ n, loopN b n s = some r) :
    CallGood P cf (fun f args σ base => enterA P cf C lp f args σ base) := by
  refine ⟨⟨fun f args σ base r σ' hb h => ?_, fun f args σ base r σ' hb h => ?_⟩, fun f args σ base r σ' hpf h => ?_, fun f args σ base r σ' hgf h => ?_⟩
  · unfold enterA at h
    split at h
    · rename_i p hpr; exact hp.sim f p args σ base r σ' hpr hb h
    · split at h
      · rename_i fn hf
        split at h
        · rename_i c hc
          refine ⟨fun w vs => enters_call he hf hc w vs, fun w M θ vs hs ha => ?_⟩
          split at h
          · split at h
            · rename_i v σ1 hbody
              split at h
              · rename_i v' hv'
                cases h
                cases args with
                | nil =>
                  simp only [List.isEmpty_nil, if_true] at hbody hv'
                  have hs0 : StR w M ⟨fun _ _ => none, fun _ => none⟩ [] := ⟨hs.mem, fun id x hx => by simp at hx, fun i j g hi => by unfold OwnAt at hi; simp at hi, fun g ⟨id, h⟩ => by unfold OwnAt at h; simp at h, fun id _ => ⟨fun _ => rfl, rfl⟩⟩
                  have ha0 : ArgsR M ⟨fun _ _ => none, fun _ => none⟩ [] vs := ⟨ha.1, by simp⟩
                  obtain ⟨hk, hcalls⟩ := body_sound hm hC.ok hC.pure hC.grow hlp hf hc (Nat.le_refl _) hbody hs0 ha0
                  refine hcalls.mono ?_
                  rintro e w1 ⟨u, M1, θ1, rfl, k1, k2, k3⟩
                  obtain ⟨q1, q2⟩ := cut_state hs0 k2 k1 hk.2
                  obtain ⟨r1, r2⟩ := lift_state (n := 0) hs q1 q2
                  exact ⟨u, _, _, rfl, r1, r2, (freeze_rep k2 hv' k3).mono (Mem.le_refl _) cut_zero_le⟩
                | cons x xs =>
                  simp only [List.isEmpty_cons, Bool.false_eq_true, if_false] at hbody hv'
                  obtain ⟨hk, hcalls⟩ := body_sound hm hC.ok hC.pure hC.grow hlp hf hc (Nat.le_refl _) hbody hs ha
                  refine hcalls.mono ?_
                  rintro e w1 ⟨u, M1, θ1, rfl, k1, k2, k3⟩
                  obtain ⟨q1, q2⟩ := cut_state hs k2 k1 hk.2
                  exact ⟨u, _, _, rfl, q1, q2, freeze_rep k2 hv' k3⟩
              · cases h
            · cases h
          · exact (body_sound hm hC.ok hC.pure hC.grow hlp hf hc (by split <;> omega) h hs ha).2
        · cases h
      · cases h
  · unfold enterA at h
    split at h
    · rename_i p hpr; exact hp.keep f p args σ base r σ' hpr hb h
    · split at h
      · rename_i fn hf
        split at h
        · rename_i c hc
          split at h
          · split at h
            · split at h
              · cases h; exact Keep.refl _ _
              · cases h
            · cases h
          · exact (bodyA_keep hlp hC.ok (by split <;> omega) h).down (by split <;> omega)
        · cases h
      · cases h
  · unfold enterA at h
    split at h
    · rename_i p hpr; exact hp.pure f p args σ base r σ' hpr hpf h
    · split at h
      · split at h
        · rw [if_pos hpf] at h
          split at h
          · split at h
            · cases h; rfl
            · cases h
          · cases h
        · cases h
      · cases h
  · unfold enterA at h
    split at h
    · rename_i p hpr; exact hp.grow f p args σ base r σ' hpr hgf h
    · split at h
      · split at h
        · split at h
          · split at h
            · split at h
              · cases h; exact fun _ _ h _ => h
              · cases h
            · cases h
          · exact (bodyA_keep hlp hC.ok (Nat.le_refl _) h).sup
        · cases h
      · cases h

theorem callN_good (hm : P.follows .mixedOrders = true) (he : Enters P) (hp : PrimOk P cf) : ∀ n, CallGood P cf (callN P cf n)
  | 0 => ⟨⟨fun _ _ _ _ _ _ _ h => (by cases h), fun _ _ _ _ _ _ _ h => (by cases h)⟩, fun _ _ _ _ _ _ _ h => (by cases h), fun _ _ _ _ _ _ _ h => (by cases h)⟩
  | n + 1 => enter_good hm he hp (callN_good hm he hp n) (fun _ _ _ h => ⟨n, h⟩)

end
end Go.Can
