/- The evaluator itself: two operations that may be exchanged. -/
import Derived.Test.YtgcfhcgnkohfkaaCanO
set_option linter.unusedSimpArgs false
set_option linter.unusedVariables false
namespace Go.Can
open Go Go.RowKit
section
variable {P : Program} {C : CallF} {base nid : Nat} {isv : Tmp → Bool} {bs : Tmp → Option Tmp} {pure grow : FuncId → Bool} {env env' : Env} {σ σ' : St} {o : Oper} {sl : Slot} {ops : List Oper}

/-- A small heap in which some free places may have been filled. -/
def Sup (σ σ2 : St) : Prop := ∀ (k : Nat) (x : Ob), σ[k]? = some x → x ≠ Ob.none → σ2[k]? = some x

theorem elems_sup {σ2 : St} {sz : Nat} {s : AV} {xs : List AV} (hs : Sup σ σ2) (hxs : elems σ sz s = some xs) : elems σ2 sz s = some xs := by
  unfold elems at hxs ⊢
  split at hxs
  · exact hxs
  · split at hxs
    · rename_i s2 ys hob
      rw [hs _ _ hob (by simp)]; exact hxs
    · cases hxs
  · cases hxs

theorem loadAt_sup {σ2 : St} {t : TypeId} {s : Slot} {v : AV} (hs : Sup σ σ2) (h : loadAt P env σ t s = some v) : loadAt P env σ2 t s = some v := by
  unfold loadAt at h ⊢
  split at h
  · exact h
  · split at h
    · rename_i cs hcs
      rw [hs _ _ hcs (by simp)]; exact h
    · cases h
  · split at h
    · rename_i xs hxs
      rw [elems_sup hs hxs]; exact h
    · cases h
  · cases h

theorem mapGet_sup {σ2 : St} {t : TypeId} {x k : AV} {r : Option AV} (hs : Sup σ σ2) (h : mapGet P σ t x k = some r) : mapGet P σ2 t x k = some r := by
  unfold mapGet at h ⊢
  split at h
  · split at h
    · rename_i hk
      rw [if_pos hk]
      split at h
      · exact h
      · split at h
        · rename_i es hes
          rw [hs _ _ hes (by simp)]; exact h
        · cases h
      · cases h
    · cases h
  · cases h

theorem evalV_no (hc : hcOf P pure grow isv bs o = .no) (h : evalV P C base isv bs nid env σ o = some (σ', sl)) : σ' = σ ∧ ∀ nid2 σ2, evalV P C base isv bs nid2 env σ2 o = some (σ2, sl) := by
  unfold evalV at h ⊢
  unfold hcOf at hc
  cases ho : o.op <;> simp only [ho] at h hc ⊢
  case load t x =>
    cases x with
    | tmp t' =>
      simp only at hc
      split at hc
      · rename_i hb
        split at h
        · rename_i hadr
          split at h
          · rename_i v hv
            cases h
            refine ⟨rfl, fun nid2 σ2 => ?_⟩
            have : loadAt P env σ2 t (look env (.tmp t')) = some v := by
              cases hl : look env (.tmp t') with
              | plc s off => rw [hl] at hv; exact hv
              | _ => rw [hl] at hadr; simp [adrOk] at hadr; rw [hadr.1] at hb; simp at hb
            rw [this, if_pos hadr]
          · cases h
        · cases h
      · split at hc <;> cases hc
    | _ => cases hc
  case alloc e =>
    split at hc
    · rename_i hv
      simp only [hv, if_true] at h ⊢
      split at h
      · cases h; exact ⟨rfl, fun _ _ => rfl⟩
      · cases h
    · cases hc
  case box e x =>
    split at hc
    · rename_i hv
      simp only [hv, if_true] at h ⊢
      split at h
      · cases h; exact ⟨rfl, fun _ _ => rfl⟩
      · cases h
    · cases hc
  case call c =>
    rcases c with ⟨callee, args, ts⟩
    cases callee with
    | builtin b =>
      cases b <;> simp only at hc <;> try (cases hc; done)
      split at hc
      · rename_i t ht
        split at hc
        · cases hc
        · rename_i hm
          simp only [ht] at h ⊢
          split at h
          · rename_i as has
            split at h
            · rename_i v s1 hev
              cases h
              unfold evalBuiltin at hev
              split at hev
              · contradiction
              · rename_i t' x e0 e1 e2
                cases e1
                split at hev
                · rename_i hu
                  split at hev
                  · cases hev; exact ⟨rfl, fun _ _ => by simp_all [evalBuiltin]⟩
                  · cases hev
                · rename_i hu
                  split at hev
                  · cases hev; exact ⟨rfl, fun _ _ => by simp_all [evalBuiltin]⟩
                  · cases hev
                · rename_i hu; exact absurd (by cases e2; unfold lenMap; rw [hu]) hm
                · cases hev
              · contradiction
              · cases hev
            · cases h
          · cases h
      · cases hc
    | value f =>
      cases f <;> simp only at hc <;> try (cases hc; done)
      (repeat' split at hc) <;> cases hc
    | invoke r m => cases hc
  case makeFunc f a b =>
    cases f <;> simp only at h ⊢ <;> try (cases h; done)
    (repeat' split at h) <;> first
        | (cases h; done)
        | (cases h; refine ⟨rfl, fun _ _ => ?_⟩; simp_all; done)
  all_goals first
    | (cases hc; done)
    | (cases h; done)
    | (exfalso; revert hc; (repeat' split) <;> (intro hc; cases hc); done)
    | ((repeat' split at h) <;> first
        | (cases h; done)
        | (cases h; exact ⟨rfl, fun _ _ => rfl⟩)
        | (cases h; refine ⟨rfl, fun _ _ => ?_⟩; simp_all; done))

theorem evalV_rd (hc : hcOf P pure grow isv bs o = .rd) (h : evalV P C base isv bs nid env σ o = some (σ', sl)) : σ' = σ ∧ ∀ nid2 σ2, Sup σ σ2 → evalV P C base isv bs nid2 env σ2 o = some (σ2, sl) := by
  unfold evalV at h ⊢
  unfold hcOf at hc
  cases ho : o.op <;> simp only [ho] at h hc ⊢ <;> try (cases hc; done)
  case store t x y => cases h
  case load t x =>
    split at h
    · rename_i hadr
      split at h
      · rename_i v hv
        cases h
        exact ⟨rfl, fun nid2 σ2 hs => by rw [loadAt_sup hs hv, if_pos hadr]⟩
      · cases h
    · cases h
  case alloc e => split at hc <;> cases hc
  case box e x => split at hc <;> cases hc
  case lookup t x k ok =>
    split at h
    · rename_i m kv h1 h2
      split at h
      · rename_i r hr
        refine ⟨by (repeat' split at h) <;> first | (cases h; done) | (cases h; rfl), fun nid2 σ2 hs => ?_⟩
        rw [mapGet_sup hs hr]
        (repeat' split at h) <;> first | (cases h; done) | (cases h; simp_all)
      · cases h
    · cases h
  case call c =>
    rcases c with ⟨callee, args, ts⟩
    cases callee with
    | builtin b =>
      cases b <;> simp only at hc <;> try (cases hc; done)
      split at hc
      · rename_i t ht
        simp only [ht] at h ⊢
        split at h
        · rename_i as has
          split at h
          · rename_i v s1 hev
            cases h
            have key : σ' = σ ∧ ∀ σ2, Sup σ σ2 → evalBuiltin P base .len [t] σ2 as = some (v, σ2) := by
              unfold evalBuiltin at hev ⊢
              split at hev
              · contradiction
              · rename_i t' x e0 e1 e2
                cases e1; cases e2
                split at hev
                · rename_i hu
                  split at hev
                  · cases hev; exact ⟨rfl, fun _ _ => by simp_all⟩
                  · cases hev
                · rename_i hu
                  split at hev
                  · cases hev; exact ⟨rfl, fun _ _ => by simp_all⟩
                  · cases hev
                · rename_i hu
                  split at hev
                  · cases hev; exact ⟨rfl, fun _ _ => by simp_all⟩
                  · split at hev
                    · rename_i es hes
                      cases hev; exact ⟨rfl, fun σ2 hs => by have := hs _ _ hes (by simp); simp_all⟩
                    · cases hev
                  · cases hev
                · cases hev
              · contradiction
              · cases hev
            exact ⟨key.1, fun nid2 σ2 hs => by rw [key.2 σ2 hs]⟩
          · cases h
        · cases h
      · cases hc
    | value f =>
      cases f <;> simp only at hc <;> try (cases hc; done)
      (repeat' split at hc) <;> cases hc
    | invoke r m => cases hc

theorem evalV_call (hp : ∀ f args σ base r σ', pure f = true → C f args σ base = some (r, σ') → σ' = σ) (hc : hcOf P pure grow isv bs o = .call) (h : evalV P C base isv bs nid env σ o = some (σ', sl)) : σ' = σ := by
  unfold evalV at h
  unfold hcOf at hc
  cases ho : o.op <;> simp only [ho] at h hc <;> try (cases hc; done)
  case load t x => cases x <;> simp only at hc <;> first | (cases hc; done) | ((repeat' split at hc) <;> cases hc)
  case store t x y => cases x <;> simp only at hc <;> first | (cases hc; done) | (split at hc <;> cases hc)
  case alloc e => split at hc <;> cases hc
  case box e x => split at hc <;> cases hc
  case call c =>
    rcases c with ⟨callee, args, ts⟩
    cases callee with
    | builtin b =>
      cases b <;> simp only at hc <;> try (cases hc; done)
      split at hc
      · split at hc <;> cases hc
      · cases hc
    | value f =>
      cases f <;> simp only at hc <;> try (cases hc; done)
      rename_i f
      split at hc
      · rename_i hpf
        split at h
        · simp only [lookV, look, Slot.v] at h
          split at h
          · rename_i v s1 hcall
            cases h
            exact hp _ _ _ _ _ _ hpf hcall
          · cases h
        · cases h
      · split at hc <;> cases hc
    | invoke r m => cases hc

theorem evalV_grow (hg : ∀ f args σ base r σ', grow f = true → C f args σ base = some (r, σ') → Sup σ σ') (hc : hcOf P pure grow isv bs o = .grow) (h : evalV P C base isv bs nid env σ o = some (σ', sl)) : Sup σ σ' := by
  unfold evalV at h
  unfold hcOf at hc
  cases ho : o.op <;> simp only [ho] at h hc <;> try (cases hc; done)
  case load t x => cases x <;> simp only at hc <;> first | (cases hc; done) | ((repeat' split at hc) <;> cases hc)
  case store t x y => cases x <;> simp only at hc <;> first | (cases hc; done) | (split at hc <;> cases hc)
  case alloc e => split at hc <;> cases hc
  case box e x => split at hc <;> cases hc
  case call c =>
    rcases c with ⟨callee, args, ts⟩
    cases callee with
    | builtin b =>
      cases b <;> simp only at hc <;> try (cases hc; done)
      split at hc
      · split at hc <;> cases hc
      · cases hc
    | value f =>
      cases f <;> simp only at hc <;> try (cases hc; done)
      rename_i f
      split at hc
      · cases hc
      · split at hc
        · rename_i hgf
          split at h
          · simp only [lookV, look, Slot.v] at h
            split at h
            · rename_i v s1 hcall
              cases h
              exact hg _ _ _ _ _ _ hgf hcall
            · cases h
          · cases h
        · cases hc
    | invoke r m => cases hc

/-- The objects of cells that stand in 'σ' stand in 'σ2'. -/
def SupC (σ σ2 : St) : Prop := ∀ (k : Nat) (cs : List AV), σ[k]? = some (.cells cs) → σ2[k]? = some (.cells cs)

theorem Sup.supC {σ σ2 : St} (h : Sup σ σ2) : SupC σ σ2 := fun k cs hk => h k _ hk (by simp)
theorem SupC.refl {σ : St} : SupC σ σ := fun _ _ h => h
theorem SupC.app {σ : St} {x : Ob} : SupC σ (σ ++ [x]) := fun k cs hk => by rw [List.getElem?_append_left (List.getElem?_eq_some_iff.1 hk).1]; exact hk
theorem SupC.setRow {σ : St} {id s : Nat} {xs : List AV} {y : Ob} (h : σ[id]? = some (.row s xs)) : SupC σ (σ.set id y) := fun k cs hk => by
  rw [List.getElem?_set_ne]
  · exact hk
  · intro e; subst e; rw [h] at hk; cases hk

theorem appendTo_supC {σ σ' : St} {sz bytes : Nat} {s r : AV} {ys : List AV} (h : appendTo base σ sz bytes s ys = some (r, σ')) : SupC σ σ' := by
  unfold appendTo at h
  split at h
  · (repeat' split at h) <;> first
      | (cases h; done)
      | (cases h; exact SupC.app)
      | (cases h; exact SupC.refl)
  · (repeat' split at h) <;> first
      | (cases h; done)
      | (cases h; exact SupC.app)
      | (cases h; exact SupC.refl)
  · split at h
    · rename_i hob
      (repeat' split at h) <;> first
        | (cases h; done)
        | (cases h; exact SupC.app)
        | (cases h; exact SupC.refl)
        | (cases h; exact SupC.setRow hob)
    · cases h
  · cases h

theorem evalV_app (hc : hcOf P pure grow isv bs o = .app) (h : evalV P C base isv bs nid env σ o = some (σ', sl)) : SupC σ σ' := by
  unfold evalV at h
  unfold hcOf at hc
  cases ho : o.op <;> simp only [ho] at h hc <;> try (cases hc; done)
  case load t x => cases x <;> simp only at hc <;> first | (cases hc; done) | ((repeat' split at hc) <;> cases hc)
  case store t x y => cases x <;> simp only at hc <;> first | (cases hc; done) | (split at hc <;> cases hc)
  case alloc e => split at hc <;> cases hc
  case box e x => split at hc <;> cases hc
  case call c =>
    rcases c with ⟨callee, args, ts⟩
    cases callee with
    | builtin b =>
      cases b <;> simp only at hc <;> try (cases hc; done)
      · simp only at h
        split at h
        · split at h
          · rename_i hev
            cases h
            unfold evalBuiltin at hev
            split at hev
            · (repeat' split at hev) <;> first
                | (cases hev; done)
                | exact appendTo_supC hev
            · contradiction
            · contradiction
            · cases hev
          · cases h
        · cases h
      all_goals ((repeat' split at hc) <;> cases hc)
    | value f =>
      cases f <;> simp only at hc <;> try (cases hc; done)
      (repeat' split at hc) <;> cases hc
    | invoke r m => cases hc

theorem evalV_rdc (hc : hcOf P pure grow isv bs o = .rdc) (h : evalV P C base isv bs nid env σ o = some (σ', sl)) : σ' = σ ∧ ∀ nid2 σ2, SupC σ σ2 → evalV P C base isv bs nid2 env σ2 o = some (σ2, sl) := by
  unfold evalV at h ⊢
  unfold hcOf at hc
  cases ho : o.op <;> simp only [ho] at h hc ⊢ <;> try (cases hc; done)
  case store t x y => cases x <;> simp only at hc <;> first | (cases hc; done) | (split at hc <;> cases hc)
  case alloc e => split at hc <;> cases hc
  case box e x => split at hc <;> cases hc
  case call c =>
    rcases c with ⟨callee, args, ts⟩
    cases callee with
    | builtin b =>
      cases b <;> simp only at hc <;> try (cases hc; done)
      all_goals ((repeat' split at hc) <;> cases hc)
    | value f =>
      cases f <;> simp only at hc <;> try (cases hc; done)
      (repeat' split at hc) <;> cases hc
    | invoke r m => cases hc
  case load t x =>
    cases x <;> simp only at hc <;> try (cases hc; done)
    rename_i t'
    split at hc
    · cases hc
    · split at hc
      · rename_i hv
        split at h
        · rename_i hadr
          have hp : (look env (.tmp t')).isPtr = true := by
            have := (Bool.and_eq_true _ _ ▸ hadr : _ ∧ ldOk isv o.dst (look env (.tmp t')) = true).2
            simpa [ldOk, hv] using this
          split at h
          · rename_i v hl
            cases h
            refine ⟨rfl, fun nid2 σ2 hs => ?_⟩
            have : loadAt P env σ2 t (look env (.tmp t')) = some v := by
              generalize look env (.tmp t') = sl at hp hl
              cases sl with
              | val a =>
                cases a with
                | ptr id off =>
                  simp only [loadAt] at hl ⊢
                  split at hl
                  · rename_i cs hcs
                    rw [hs _ _ hcs]; exact hl
                  · cases hl
                | _ => cases hp
              | _ => cases hp
            rw [this, if_pos hadr]
          · cases h
        · cases h
      · cases hc

theorem fresh_iff {σ : St} {nid : Nat} : fresh σ nid = true ↔ σ[nid]? = some Ob.none := by
  constructor
  · intro h; exact fresh_spec h
  · intro h; simp [fresh, h]

/-- A new object: it takes the free place that is its own, and looks at nothing else. -/
theorem evalV_new (hc : hcOf P pure grow isv bs o = .new) (h : evalV P C base isv bs nid env σ o = some (σ', sl)) :
    ∃ ob, ob ≠ Ob.none ∧ σ[nid]? = some Ob.none ∧ σ' = σ.set nid ob ∧ ∀ σ2 : St, σ2[nid]? = some Ob.none → evalV P C base isv bs nid env σ2 o = some (σ2.set nid ob, sl) := by
  unfold evalV at h ⊢
  unfold hcOf at hc
  cases ho : o.op <;> simp only [ho] at h hc ⊢ <;> try (cases hc; done)
  case load t x => cases x <;> simp only at hc <;> first | (cases hc; done) | ((repeat' split at hc) <;> cases hc)
  case store t x y => cases x <;> simp only at hc <;> first | (cases hc; done) | (split at hc <;> cases hc)
  case alloc e =>
    split at hc
    · cases hc
    · rename_i hv
      simp only [hv] at h ⊢
      split at h
      · rename_i z hz
        simp only [Bool.false_eq_true, if_false] at h ⊢
        split at h
        · rename_i hn
          cases h
          simp only [Bool.and_eq_true] at hn
          exact ⟨_, by simp, fresh_iff.1 hn.1, rfl, fun σ2 h2 => by rw [if_pos (by simp only [Bool.and_eq_true]; exact ⟨fresh_iff.2 h2, hn.2⟩)]⟩
        · cases h
      · cases h
  case box e x =>
    split at hc
    · cases hc
    · rename_i hv
      simp only [hv] at h ⊢
      split at h
      · rename_i z hz
        simp only [Bool.false_eq_true, if_false] at h ⊢
        split at h
        · rename_i hn
          cases h
          simp only [Bool.and_eq_true] at hn
          exact ⟨_, by simp, fresh_iff.1 hn.1, rfl, fun σ2 h2 => by rw [if_pos (by simp only [Bool.and_eq_true]; exact ⟨fresh_iff.2 h2, hn.2⟩)]⟩
        · cases h
      · cases h
  case makeMap t r =>
    cases r with
    | none =>
      simp only at h ⊢
      split at h
      · rename_i hz
        split at h
        · rename_i hn
          cases h
          simp only [Bool.and_eq_true] at hn
          exact ⟨_, by simp, fresh_iff.1 hn.1, rfl, fun σ2 h2 => by rw [if_pos (by simp only [Bool.and_eq_true]; exact ⟨fresh_iff.2 h2, hn.2⟩)]⟩
        · cases h
      · cases h
    | some x =>
      simp only at h ⊢
      split at h
      · rename_i hz
        split at h
        · rename_i hn
          cases h
          simp only [Bool.and_eq_true] at hn
          exact ⟨_, by simp, fresh_iff.1 hn.1, rfl, fun σ2 h2 => by rw [if_pos (by simp only [Bool.and_eq_true]; exact ⟨fresh_iff.2 h2, hn.2⟩)]⟩
        · cases h
      · cases h
  case makeSlice t l c =>
    split at h
    · split at h
      · split at h
        · rename_i hn
          cases h
          exact ⟨_, by simp, fresh_iff.1 hn.2.2.2.2.2.2.1, rfl, fun σ2 h2 => by rw [if_pos ⟨hn.1, hn.2.1, hn.2.2.1, hn.2.2.2.1, hn.2.2.2.2.1, hn.2.2.2.2.2.1, fresh_iff.2 h2, hn.2.2.2.2.2.2.2⟩]⟩
        · cases h
      · cases h
    · cases h
  case call c =>
    rcases c with ⟨callee, args, ts⟩
    cases callee with
    | builtin b =>
      cases b <;> simp only at hc <;> try (cases hc; done)
      split at hc
      · split at hc <;> cases hc
      · cases hc
    | value f =>
      cases f <;> simp only at hc <;> try (cases hc; done)
      (repeat' split at hc) <;> cases hc
    | invoke r m => cases hc

/-! Stores. -/

/-- A store changes one variable of the frame, the one that the text says; or none. -/
theorem evalS_spec {t : TypeId} {x y : Operand} (h : evalS P base bs env σ t x y = some (env', σ')) :
    (∃ tt s cs, x = .tmp tt ∧ bs tt = some s ∧ σ' = σ ∧ env' = env.set s (.var cs) ∧ s < env.length ∧ ∀ env2 σ2, look env2 x = look env x → look env2 y = look env y → env2[s]? = env[s]? → evalS P base bs env2 σ2 t x y = some (env2.set s (.var cs), σ2)) ∨
    (env' = env ∧ (∀ tt, x = .tmp tt → bs tt = none) ∧ ∀ env2, look env2 x = look env x → look env2 y = look env y → evalS P base bs env2 σ t x y = some (env2, σ')) := by
  unfold evalS at h
  split at h
  · rename_i hadr
    split at h
    · rename_i v hv
      cases hl : look env x with
      | plc s off =>
        left
        rw [hl] at h hadr
        cases x with
        | tmp tt =>
          simp only [adrOk, beq_iff_eq] at hadr
          unfold storeAt at h
          split at h
          · rename_i hsz
            simp only at h
            split at h
            · rename_i cs hcs
              split at h
              · rename_i cs' hsp
                cases h
                refine ⟨tt, s, cs', rfl, hadr, rfl, rfl, (List.getElem?_eq_some_iff.1 hcs).1, fun env2 σ2 e1 e2 e3 => ?_⟩
                unfold evalS
                rw [e1, if_pos (by simp [adrOk, hadr]), lookV_congr e2, hv]
                simp only [storeAt]
                rw [if_pos hsz, e3, hcs]
                simp only [hsp]
              · cases h
            · cases h
          · cases h
        | _ => simp [adrOk] at hadr
      | val a =>
        right
        rw [hl] at h hadr
        refine ⟨?_, fun tt e => by subst e; simpa [adrOk] using hadr, fun env2 e1 e2 => ?_⟩
        · unfold storeAt at h
          (repeat' split at h) <;> first | (cases h; done) | (cases h; rfl) | simp_all
        · unfold evalS
          rw [e1, if_pos hadr, lookV_congr e2, hv]
          simp only
          unfold storeAt at h ⊢
          (repeat' split at h) <;> first | (cases h; done) | (cases h; simp_all) | simp_all
      | var cs => rw [hl] at h; unfold storeAt at h; (repeat' split at h) <;> first | (cases h; done) | simp_all
      | und => rw [hl] at h; unfold storeAt at h; (repeat' split at h) <;> first | (cases h; done) | simp_all
      | top => rw [hl] at h; unfold storeAt at h; (repeat' split at h) <;> first | (cases h; done) | simp_all
    · cases h
  · cases h

end
end Go.Can
