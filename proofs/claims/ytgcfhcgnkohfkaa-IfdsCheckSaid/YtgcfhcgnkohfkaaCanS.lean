/- Regions and code: what the evaluator says of them, the model does. -/
import Derived.Test.YtgcfhcgnkohfkaaCanR
set_option linter.unusedSimpArgs false
set_option linter.unusedVariables false
namespace Go.Can
open Go Go.RowKit

/-- The state and the frame are related, and come from the state at the function's entry. -/
structure RelS (w0 : World) (M0 : Mem) (θ0 : Th) (σ0 : St) (base : Nat) (s : S) (a : Act) (w : World) : Prop where
  defers : a.defers = []
  base : base ≤ s.2.length
  rel : ∃ M θ π, Ext w0 M0 θ0 σ0 (fun _ => none) w M θ s.2 π ∧ StR w M θ s.2 ∧ FrR w M θ s.2 π s.1 a.tmps

section
variable {P : Program} {C : CallF} {base : Nat} {isv : Tmp → Bool} {bs : Tmp → Option Tmp} {pure : FuncId → Bool} {Q : Exit → Act → World → Prop}
variable {w0 : World} {M0 : Mem} {θ0 : Th} {σ0 : St}

theorem wanted_sound {w : World} {M : Mem} {θ : Th} {σ : St} {π : Nat → Option Nat} {env : Env} {a : Act} {ops : Array Oper} {o : Oper} {b : Bool} (hf : FrR w M θ σ π env a.tmps) (h : wantedA ops.toList env o = some b) :
    Region.wanted o (yielded ops a.tmps) = b := by
  unfold wantedA at h
  unfold Region.wanted
  cases hg : o.guard with
  | none => rw [hg] at h; cases h; rfl
  | some g =>
    obtain ⟨j, want⟩ := g
    rw [hg] at h
    simp only at h ⊢
    rw [Array.getElem?_toList] at h
    unfold yielded
    cases hd : (ops[j]?).bind (·.dst) with
    | none => rw [hd] at h; cases h; rfl
    | some d =>
      rw [hd] at h
      simp only [Option.bind_some] at h ⊢
      have hget : ∀ sl, env[d]? = some sl → ∃ u, a.tmps[d]? = some u ∧ SlotR w M θ π d sl u := fun sl hs => by
        have h1 := hf.slot d sl hs
        have hlt : d < a.tmps.size := by rw [hf.size]; exact (List.getElem?_eq_some_iff.1 hs).1
        refine ⟨a.tmps[d], Array.getElem?_eq_getElem hlt, ?_⟩
        have : a.tmps.getD d undef = a.tmps[d] := by simp [Array.getD_eq_getD_getElem?, hlt]
        rwa [this] at h1
      split at h
      · rename_i b' hb
        obtain ⟨u, h1, h2⟩ := hget _ hb
        cases h
        have : u = .bool b' := Rep.bool h2
        rw [h1, this]
        simp
      · rename_i hb
        obtain ⟨u, h1, h2⟩ := hget _ hb
        cases h
        have : u = undef := h2
        rw [h1, this]
        rfl
      · rename_i k n hb
        obtain ⟨u, h1, h2⟩ := hget _ hb
        cases h
        have : u = .int k n := Rep.int h2
        rw [h1, this]
        rfl
      · cases h

theorem step_sound (hC : CallOk P C) {ops : Array Oper} {n0 j : Nat} {s m : S} {a : Act} {w : World} {K : Act → World → Prop} (hr : RelS w0 M0 θ0 σ0 base s a w)
    (h : stepA P C base isv bs ops.toList n0 j s = some m) (hK : ∀ a' w', RelS w0 M0 θ0 σ0 base m a' w' → K a' w') : wpOp P ops Q j K a w := by
  unfold stepA at h
  unfold wpOp
  rw [Array.getElem?_toList] at h
  cases ho : ops[j]? with
  | none => rw [ho] at h; cases h; exact hK a w hr
  | some o =>
    rw [ho] at h
    simp only at h ⊢
    obtain ⟨M, θ, π, he, hs, hf⟩ := hr.rel
    split at h
    · rename_i hd
      split at h
      · rename_i hw
        rw [if_pos (wanted_sound hf hw)]
        left
        split at h
        · rename_i e1 s1 sl hev
          cases h
          refine evalOp_sound hC hr.base hs hf hd hev K Q fun u w' M' θ' π' k1 k2 k3 => ?_
          refine hK _ _ ⟨?_, ?_, M', θ', π', he.trans k1, k2, k3⟩
          · cases hdd : o.dst <;> simp [Act.put, hr.defers]
          · exact Nat.le_trans hr.base (evalOp_keep hC hr.base hev).1
        · cases h
      · rename_i hw
        rw [if_neg (by rw [wanted_sound hf hw]; simp)]
        cases h
        refine hK _ _ ⟨?_, hr.base, M, θ, π, he, hs, hf.put o.dst hd (by simp) (fun _ => rfl)⟩
        cases hdd : o.dst <;> simp [Act.put, hr.defers]
      · cases h
    · cases h

/-! Forgetting. -/

theorem FrR.weaken {w : World} {M : Mem} {θ : Th} {σ : St} {π : Nat → Option Nat} {env env' : Env} {tmps : Array Value} (h : FrR w M θ σ π env tmps) (hl : env'.length = env.length)
    (hs : ∀ s : Nat, env'[s]? = env[s]? ∨ (env'[s]? = some Slot.top ∧ ∀ cs, env[s]? ≠ some (Slot.var cs))) : FrR w M θ σ π env' tmps := by
  refine ⟨by rw [h.size, hl], fun s sl he => ?_, fun s g hp => ?_, h.inj, h.out⟩
  · rcases hs s with e | ⟨e, _⟩
    · exact h.slot s sl (by rw [← e]; exact he)
    · rw [e] at he; cases he; trivial
  · obtain ⟨cs, hc⟩ := h.dom s g hp
    rcases hs s with e | ⟨_, e⟩
    · exact ⟨cs, by rw [e]; exact hc⟩
    · exact absurd hc (e cs)

theorem clearA_spec {keep : Tmp → Bool} : ∀ {os : List Oper} {env : Env}, (clearA keep os env).length = env.length ∧
    ∀ s : Nat, (clearA keep os env)[s]? = env[s]? ∨ ((clearA keep os env)[s]? = some .top ∧ ∀ cs, env[s]? ≠ some (.var cs))
  | [], env => ⟨rfl, fun _ => .inl rfl⟩
  | o :: os, env => by
    unfold clearA
    cases o.dst with
    | none => exact clearA_spec
    | some d =>
      simp only
      split
      · exact clearA_spec
      · split
        · exact clearA_spec
        · rename_i hnv
          obtain ⟨h1, h2⟩ := clearA_spec (keep := keep) (os := os) (env := env.set d .top)
          refine ⟨by rw [h1]; simp, fun s => ?_⟩
          by_cases hsd : s = d
          · subst hsd
            by_cases hlt : s < env.length
            · right
              refine ⟨?_, fun cs e => hnv cs e⟩
              rcases h2 s with e | ⟨e, _⟩
              · rw [e, List.getElem?_set_self hlt]
              · exact e
            · left
              rw [List.getElem?_eq_none (by rw [h1]; simp; omega), List.getElem?_eq_none (by omega)]
          · have e1 : (env.set d .top)[s]? = env[s]? := List.getElem?_set_ne (Ne.symm hsd)
            have := h2 s
            rw [e1] at this
            exact this

theorem RelS.clear {s : S} {a : Act} {w : World} {keep : Tmp → Bool} {os : List Oper} (hr : RelS w0 M0 θ0 σ0 base s a w) : RelS w0 M0 θ0 σ0 base (clearA keep os s.1, s.2) a w := by
  obtain ⟨M, θ, π, he, hs, hf⟩ := hr.rel
  exact ⟨hr.defers, hr.base, M, θ, π, he, hs, hf.weaken clearA_spec.1 clearA_spec.2⟩

theorem maskA_spec {live : Tmp → Bool} : ∀ {env env' : Env} {i : Nat}, maskA live i env = some env' → env'.length = env.length ∧
    ∀ (s : Nat) (sl : Slot), env'[s]? = some sl → (live (i + s) = true ∧ env[s]? = some sl ∧ ∀ t off, sl ≠ .plc t off) ∨ (live (i + s) = false ∧ sl = .top)
  | [], env', i, h => by cases h; exact ⟨rfl, fun s sl h => by cases h⟩
  | x :: env, env', i, h => by
    unfold maskA at h
    split at h
    · cases h
    · rename_i e2 h2
      obtain ⟨k1, k2⟩ := maskA_spec h2
      have k3 : ∀ (s : Nat) (sl : Slot), e2[s]? = some sl → (live (i + (s + 1)) = true ∧ env[s]? = some sl ∧ ∀ t off, sl ≠ .plc t off) ∨ (live (i + (s + 1)) = false ∧ sl = .top) := fun s sl hs => by
        have e : i + 1 + s = i + (s + 1) := by omega
        rw [← e]; exact k2 s sl hs
      split at h
      · rename_i hl
        split at h
        · cases h
        · rename_i hnp
          cases h
          refine ⟨by simp [k1], fun s sl hs => ?_⟩
          cases s with
          | zero => simp at hs; subst hs; exact .inl ⟨hl, rfl, fun t off e => hnp t off e⟩
          | succ s => exact k3 s sl (by simpa using hs)
      · rename_i hl
        cases h
        refine ⟨by simp [k1], fun s sl hs => ?_⟩
        cases s with
        | zero => simp at hs; subst hs; exact .inr ⟨by simpa using hl, rfl⟩
        | succ s => exact k3 s sl (by simpa using hs)

theorem RelS.mask {s : S} {a : Act} {w : World} {live : Tmp → Bool} {env' : Env} (hr : RelS w0 M0 θ0 σ0 base s a w) (h : maskA live 0 s.1 = some env') : RelS w0 M0 θ0 σ0 base (env', s.2) a w := by
  obtain ⟨M, θ, π, he, hs, hf⟩ := hr.rel
  obtain ⟨k1, k2⟩ := maskA_spec h
  let π' : Nat → Option Nat := fun t => if live t then π t else none
  have hle : ∀ t g, π' t = some g → live t = true ∧ π t = some g := fun t g hp => by
    simp only [π'] at hp
    split at hp
    · rename_i hl; exact ⟨hl, hp⟩
    · cases hp
  refine ⟨hr.defers, hr.base, M, θ, π', ⟨he.os, he.tape, he.output, he.size, he.m, he.t, he.block, he.own, fun t g hp => he.var t g (hle t g hp).2, he.dom⟩, hs, ⟨by rw [hf.size, k1], fun t sl ht => ?_, fun t g hp => ?_, fun t t' g h1 h2 => hf.inj t t' g (hle _ _ h1).2 (hle _ _ h2).2, fun t g hp => hf.out t g (hle _ _ hp).2⟩⟩
  · rcases k2 t sl ht with ⟨h1, h2, h3⟩ | ⟨_, rfl⟩
    · rw [Nat.zero_add] at h1
      have h4 := hf.slot t sl h2
      cases sl with
      | plc q off => exact absurd rfl (h3 q off)
      | var cs =>
        obtain ⟨g, cur, e, h5, h6⟩ := h4
        exact ⟨g, cur, e, by simp only [π', h1, if_true]; exact h5, h6⟩
      | val v => exact h4
      | und => exact h4
      | top => trivial
    · trivial
  · obtain ⟨hl, hp'⟩ := hle t g hp
    obtain ⟨cs, hc⟩ := hf.dom t g hp'
    have hlt : t < env'.length := by rw [k1]; exact (List.getElem?_eq_some_iff.1 hc).1
    refine ⟨cs, ?_⟩
    rw [List.getElem?_eq_getElem hlt]
    rcases k2 t _ (List.getElem?_eq_getElem hlt) with ⟨_, h2, _⟩ | ⟨h2, _⟩
    · rw [h2] at hc; exact hc
    · rw [Nat.zero_add] at h2; rw [hl] at h2; cases h2

/-- Free places laid behind the small heap. -/
theorem RelS.free {s : S} {a : Act} {w : World} (n : Nat) (hr : RelS w0 M0 θ0 σ0 base s a w) : RelS w0 M0 θ0 σ0 base (s.1, s.2 ++ List.replicate n .none) a w := by
  obtain ⟨M, θ, π, he, hs, hf⟩ := hr.rel
  obtain ⟨k1, k2⟩ := hs.none n
  exact ⟨hr.defers, by simp; exact Nat.le_trans hr.base (by omega), M, θ, π, ⟨he.os, he.tape, he.output, he.size, he.m, he.t, he.block, fun g hg => he.own g ((k2 g).1 hg), he.var, he.dom⟩, k1, ⟨hf.size, hf.slot, hf.dom, hf.inj, fun t g hp => ⟨(hf.out t g hp).1, fun ho => (hf.out t g hp).2 ((k2 g).1 ho)⟩⟩⟩

/-- The world has drawn once more. -/
theorem RelS.drew {s : S} {a : Act} {w : World} (hr : RelS w0 M0 θ0 σ0 base s a w) : RelS w0 M0 θ0 σ0 base s a { w with drawn := w.drawn + 1 } := by
  obtain ⟨M, θ, π, he, hs, hf⟩ := hr.rel
  exact ⟨hr.defers, hr.base, M, θ, π, ⟨he.os, he.tape, he.output, he.size, he.m, he.t, he.block, he.own, he.var, he.dom⟩, hs.keep (fun _ _ => rfl) (fun _ _ _ _ => rfl),
    ⟨hf.size, fun t sl ht => (hf.slot t sl ht).mono M.le_refl θ.le_refl (fun _ _ => rfl), hf.dom, hf.inj, hf.out⟩⟩

theorem region_sound (hm : P.follows .mixedOrders = true) (hC : CallOk P C) {cf : Cfg} (hp : ∀ f args σ base r σ', cf.pure f = true → C f args σ base = some (r, σ') → σ' = σ) (hg : ∀ f args σ base r σ', cf.grow f = true → C f args σ base = some (r, σ') → Sup σ σ') {f : FuncId} {id : Nat} {ops : Array Oper} {d : Bool} {s s' : S} {a : Act} {w : World}
    (h : regionA P cf C base f id ops d s = some s') (hr : RelS w0 M0 θ0 σ0 base s a w) (hQ : ∀ a' w', RelS w0 M0 θ0 σ0 base s' a' w' → Q .normal a' w') : (Code.region id ops d).wp P Q a w := by
  unfold regionA at h
  simp only at h
  split at h
  · rename_i hok
    split at h
    · rename_i env σ hrun
      cases h
      have hQ' : ∀ a' w', RelS w0 M0 θ0 σ0 base (env, σ) a' w' → Q .normal a' w' := fun a' w' hr' => hQ a' w' hr'.clear
      cases d with
      | false => exact wp_region (text_sound (Rel := RelS w0 M0 θ0 σ0 base) (fun j s m a w K h1 h2 h3 => step_sound hC h1 h2 h3) hQ' hrun (hr.free _))
      | true =>
        refine wp_region_any hm (draw_sound (Rel := RelS w0 M0 θ0 σ0 base) (regionOk_spec (by rw [Bool.not_true, Bool.false_or] at hok; exact hok)) (fun j s m a w K h1 h2 h3 => step_sound hC h1 h2 h3) (fun i j hij hind s s1 s2 h1 h2 => ?_) hQ' hrun (hr.free _).drew)
        cases hx : ops[i]? with
        | none =>
          refine ⟨s2, ?_, ?_⟩
          · unfold stepA at h1; rw [Array.getElem?_toList, hx] at h1; cases h1; exact h2
          · unfold stepA; rw [Array.getElem?_toList, hx]
        | some x =>
          cases hy : ops[j]? with
          | none =>
            refine ⟨s, ?_, ?_⟩
            · unfold stepA; rw [Array.getElem?_toList, hy]
            · unfold stepA at h2; rw [Array.getElem?_toList, hy] at h2; cases h2; exact h1
          | some y => exact swapI hp hg (by rw [Array.getElem?_toList]; exact hx) (by rw [Array.getElem?_toList]; exact hy) (hind x y hx hy) h1 h2
    · cases h
  · cases h

/-! Code. -/

def Out.toExit : Out → Exit
  | .normal => .normal
  | .exit i => .exit i
  | .ret => .ret

theorem cond_sound {s : S} {a : Act} {w : World} {c : Operand} {t : Bool} (hr : RelS w0 M0 θ0 σ0 base s a w) (h : lookV s.1 c = some (.bool t)) : a.eval c = .bool t := by
  obtain ⟨M, θ, π, he, hs, hf⟩ := hr.rel
  exact (lookV_sound hf h).rep.bool

theorem exec_sound {rg : Nat → Array Oper → Bool → S → Option S} {mk : Code → Option Out → Env → Option Env} {lp : (S → Option (Out × S)) → S → Option (Out × S)} {Rel : S → Act → World → Prop}
    (hrg : ∀ id ops d s s' a w Q, rg id ops d s = some s' → Rel s a w → (∀ a' w', Rel s' a' w' → Q Exit.normal a' w') → (Code.region id ops d).wp P Q a w)
    (hmk : ∀ c o e e' σ a w, mk c o e = some e' → Rel (e, σ) a w → Rel (e', σ) a w)
    (hlp : ∀ b s r, lp b s = some r → ∃ n, loopN b n s = some r)
    (hcd : ∀ (s : S) a w c t, Rel s a w → lookV s.1 c = some (.bool t) → a.eval c = .bool t) :
    ∀ (c : Code) {s s' : S} {out : Out} {a : Act} {w : World} {Q : Exit → Act → World → Prop}, execC rg mk lp c s = some (out, s') → Rel s a w → (∀ a' w', Rel s' a' w' → Q out.toExit a' w') → c.wp P Q a w := by
  intro c
  induction c with
  | skip => intro s s' out a w Q h hr hQ; cases h; exact wp_skip (hQ a w hr)
  | label l => intro s s' out a w Q h hr hQ; cases h; exact wp_label (hQ a w hr)
  | region id ops d =>
    intro s s' out a w Q h hr hQ
    unfold execC at h
    split at h
    · rename_i s1 h1; cases h; exact hrg id ops d s s' a w Q h1 hr hQ
    · cases h
  | seq x y ihx ihy =>
    intro s s' out a w Q h hr hQ
    unfold execC at h
    refine wp_seq ?_
    split at h
    · rename_i s1 h1
      exact ihx h1 hr fun a' w' hr' => ihy h hr' hQ
    · rename_i hne
      refine ihx h hr fun a' w' hr' => ?_
      cases out with
      | normal => exact absurd h (hne s')
      | exit i => exact hQ a' w' hr'
      | ret => exact hQ a' w' hr'
  | cond c x y ihx ihy =>
    intro s s' out a w Q h hr hQ
    unfold execC at h
    split at h
    · rename_i hc; exact wp_cond (hcd s a w c true hr hc) (ihx h hr hQ)
    · rename_i hc; exact wp_cond (hcd s a w c false hr hc) (ihy h hr hQ)
    · cases h
  | block id x ih =>
    intro s s' out a w Q h hr hQ
    unfold execC at h
    refine wp_block ?_
    split at h
    · rename_i i s1 h1
      split at h
      · rename_i hi
        cases h
        refine ih h1 hr fun a' w' hr' => ?_
        show Exit.inBlock id Q (.exit i) a' w'
        simp only [Exit.inBlock, hi, if_true]
        exact hQ a' w' hr'
      · rename_i hi
        cases h
        refine ih h1 hr fun a' w' hr' => ?_
        show Exit.inBlock id Q (.exit i) a' w'
        simp only [Exit.inBlock, hi, if_false]
        exact hQ a' w' hr'
    · rename_i hne
      refine ih h hr fun a' w' hr' => ?_
      cases out with
      | normal => exact hQ a' w' hr'
      | exit i => exact absurd h (hne i s')
      | ret => exact hQ a' w' hr'
  | loop x ih =>
    intro s s' out a w Q h hr hQ
    unfold execC at h
    split at h
    · rename_i out1 s1 h0
      split at h
      · rename_i e1 he1
        cases h
        have hQ' : ∀ a' w', Rel s1 a' w' → Q out.toExit a' w' := fun a' w' hr' => hQ a' w' (hmk _ _ _ _ _ _ _ he1 hr')
        obtain ⟨n, hn⟩ := hlp _ _ _ h0
        refine wp_loop_rounds n ?_
        clear h0
        induction n generalizing s a w with
        | zero => cases hn
        | succ n ihn =>
          rw [rounds_succ]
          unfold loopN at hn
          split at hn
          · rename_i s2 h1
            unfold roundA at h1
            split at h1
            · rename_i e he
              exact ih h1 (hmk _ _ _ _ _ _ _ he hr) fun a' w' hr' => ihn hr' hn
            · cases h1
          · rename_i hne
            unfold roundA at hn
            split at hn
            · rename_i e he
              refine ih hn (hmk _ _ _ _ _ _ _ he hr) fun a' w' hr' => ?_
              cases out with
              | normal =>
                exfalso
                refine hne s1 ?_
                unfold roundA; rw [he]; exact hn
              | exit i => exact hQ' a' w' hr'
              | ret => exact hQ' a' w' hr'
            · cases hn
      · cases h
    · cases h
  | exit id => intro s s' out a w Q h hr hQ; cases h; exact wp_exit (hQ a w hr)
  | ret => intro s s' out a w Q h hr hQ; cases h; exact wp_ret (hQ a w hr)
  | _ => intros; contradiction

end
end Go.Can
