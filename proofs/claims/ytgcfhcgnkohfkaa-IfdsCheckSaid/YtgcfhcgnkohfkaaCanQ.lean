/- The evaluator itself: two exchangeable operations may be carried out in either order. -/
import Derived.Test.YtgcfhcgnkohfkaaCanP
set_option linter.unusedSimpArgs false
set_option linter.unusedVariables false
namespace Go.Can
open Go Go.RowKit
section
variable {P : Program} {C : CallF} {base nid : Nat} {isv : Tmp → Bool} {bs : Tmp → Option Tmp} {pure grow : FuncId → Bool} {env env' : Env} {σ σ' : St} {o : Oper} {sl : Slot} {ops : List Oper}

/-- One operation, its place given. -/
def stepO (P : Program) (C : CallF) (base : Nat) (isv : Tmp → Bool) (bs : Tmp → Option Tmp) (ops : List Oper) (nid : Nat) (o : Oper) (s : Env × St) : Option (Env × St) :=
  if okDst s.1 o.dst then match wantedA ops s.1 o with
    | some true => match evalOp P C base isv bs nid s.1 s.2 o with
      | some (env, σ, sl) => some (putA env o.dst sl, σ)
      | none => none
    | some false => some (putA s.1 o.dst .und, s.2)
    | none => none
  else none

theorem stepA_stepO {n0 i : Nat} {s : Env × St} (h : ops[i]? = some o) : stepA P C base isv bs ops n0 i s = stepO P C base isv bs ops (n0 + (ops.take i).countP (allocs isv)) o s := by
  unfold stepA stepO; rw [h]; rfl

def applyU : List (Tmp × Slot) → Env → Env
  | [], env => env
  | (t, s) :: us, env => applyU us (env.set t s)

theorem applyU_length : ∀ {us : List (Tmp × Slot)} {env : Env}, (applyU us env).length = env.length
  | [], _ => rfl
  | (t, s) :: us, env => by simp [applyU, applyU_length (us := us)]

theorem applyU_get : ∀ {us : List (Tmp × Slot)} {env : Env} {k : Nat}, (∀ p ∈ us, p.1 ≠ k) → (applyU us env)[k]? = env[k]?
  | [], _, _, _ => rfl
  | (t, s) :: us, env, k, h => by
    simp only [applyU]
    rw [applyU_get (us := us) (fun p hp => h p (by simp [hp])), List.getElem?_set_ne (h (t, s) (by simp))]

theorem applyU_set : ∀ {us : List (Tmp × Slot)} {env : Env} {k : Nat} {v : Slot}, (∀ p ∈ us, p.1 ≠ k) → applyU us (env.set k v) = (applyU us env).set k v
  | [], _, _, _, _ => rfl
  | (t, s) :: us, env, k, v, h => by
    simp only [applyU]
    rw [List.set_comm _ _ (fun e => h (t, s) (by simp) e.symm), applyU_set (us := us) (fun p hp => h p (by simp [hp]))]

theorem applyU_comm : ∀ {us vs : List (Tmp × Slot)} {env : Env}, (∀ p ∈ us, ∀ q ∈ vs, p.1 ≠ q.1) → applyU us (applyU vs env) = applyU vs (applyU us env)
  | [], _, _, _ => rfl
  | (t, s) :: us, vs, env, h => by
    simp only [applyU]
    rw [← applyU_set (us := vs) (fun q hq e => h (t, s) (by simp) q hq e.symm), applyU_comm (us := us) (fun p hp => h p (by simp [hp]))]

structure Agree (env env2 : Env) (L : List Tmp) : Prop where
  len : env2.length = env.length
  get : ∀ t ∈ L, env2[t]? = env[t]?

def DomOk (k : HC) (σ σ2 : St) : Prop := match k with
  | .rd => Sup σ σ2
  | .rdc => SupC σ σ2
  | .call => σ2 = σ
  | _ => True

/-- What an operation does, and what it looks at. -/
def StepSpec (step : Env × St → Option (Env × St)) (R W : List Tmp) (k : HC) (nid : Nat) (env : Env) (σ : St) (env' : Env) (σ' : St) : Prop :=
  ∃ us : List (Tmp × Slot), (∀ p ∈ us, p.1 ∈ W) ∧ env' = applyU us env ∧
    ((σ' = σ ∧ ∀ env2 σ2, Agree env env2 (R ++ W) → DomOk k σ σ2 → step (env2, σ2) = some (applyU us env2, σ2)) ∨
     (k = .new ∧ ∃ ob, ob ≠ Ob.none ∧ σ[nid]? = some Ob.none ∧ σ' = σ.set nid ob ∧ ∀ env2 (σ2 : St), Agree env env2 (R ++ W) → σ2[nid]? = some Ob.none → step (env2, σ2) = some (applyU us env2, σ2.set nid ob)) ∨
     ((k = .wr ∨ (k = .grow ∧ Sup σ σ') ∨ (k = .app ∧ SupC σ σ')) ∧ ∀ env2, Agree env env2 (R ++ W) → step (env2, σ) = some (applyU us env2, σ')))

theorem okDst_congr {env2 : Env} {d : Option Tmp} (h : ∀ t ∈ d.toList, env2[t]? = env[t]?) : okDst env2 d = okDst env d := by
  cases d with
  | none => rfl
  | some t => simp only [okDst, h t (by simp)]

theorem wantedA_congr {env2 : Env} (h : ∀ t ∈ readsOf bs ops o, env2[t]? = env[t]?) : wantedA ops env2 o = wantedA ops env o := by
  unfold wantedA
  cases hg : o.guard with
  | none => rfl
  | some g =>
    obtain ⟨j, want⟩ := g
    simp only
    cases hd : (ops[j]?).bind (·.dst) with
    | none => rfl
    | some d =>
      simp only
      rw [h d (by unfold readsOf; rw [hg]; simp [hd])]

def dU : Option Tmp → Slot → List (Tmp × Slot)
  | some d, s => [(d, s)]
  | none, _ => []

theorem putA_U {d : Option Tmp} {s : Slot} : putA env d s = applyU (dU d s) env := by cases d <;> rfl

theorem putA_set_U {d : Option Tmp} {s v : Slot} {k : Nat} : putA (env.set k v) d s = applyU ((k, v) :: dU d s) env := by cases d <;> rfl

theorem mem_ops_reads {t : Tmp} (h : Operand.tmp t ∈ o.op.operands) : t ∈ readsOf bs ops o := by
  unfold readsOf
  simp only [List.mem_append]
  exact .inl (.inl (List.mem_filterMap.2 ⟨.tmp t, by simpa using h, rfl⟩))

theorem mem_base_reads {t : Tmp} (h : t ∈ baseReads bs o) : t ∈ readsOf bs ops o := by
  unfold readsOf
  simp only [List.mem_append]
  refine .inl (.inr ?_)
  unfold baseReads at h
  cases ho : o.op <;> simp only [ho] at h ⊢ <;> try (cases h; done)
  case load t a => cases a <;> simp only at h ⊢ <;> first | exact h | (cases h; done)
  case store t a x => cases a <;> simp only at h ⊢ <;> first | exact h | (cases h; done)

theorem agree_look {env2 : Env} {W : List Tmp} (ha : Agree env env2 (readsOf bs ops o ++ W)) : ∀ x ∈ o.op.operands, look env2 x = look env x := fun x hx =>
  look_congr fun t e => ha.get t (by subst e; exact List.mem_append.2 (.inl (mem_ops_reads hx)))

theorem agree_evalV {env2 : Env} {W : List Tmp} (ha : Agree env env2 (readsOf bs ops o ++ W)) {nid : Nat} {σ : St} : evalV P C base isv bs nid env2 σ o = evalV P C base isv bs nid env σ o :=
  evalV_congr (agree_look ha) (fun t ht => ha.get t (List.mem_append.2 (.inl (mem_base_reads ht))))

theorem evalOp_noS (hs : ∀ t a x, o.op ≠ .store t a x) : evalOp P C base isv bs nid env σ o = match evalV P C base isv bs nid env σ o with
    | some (σ', sl) => some (env, σ', sl)
    | none => none := by
  unfold evalOp
  split
  · rename_i t a x e; exact absurd e (hs t a x)
  · rfl

theorem hc_not_store {k : HC} (hk : hcOf P pure grow isv bs o = k) {t : TypeId} {a x : Operand} (h : o.op = .store t a x) : k = .no ∨ k = .wr := by
  unfold hcOf at hk
  rw [h] at hk
  cases a <;> simp only at hk
  · split at hk <;> simp [← hk]
  all_goals simp [← hk]

theorem step_spec (hp : ∀ f args σ base r σ', pure f = true → C f args σ base = some (r, σ') → σ' = σ) (hg : ∀ f args σ base r σ', grow f = true → C f args σ base = some (r, σ') → Sup σ σ') (h : stepO P C base isv bs ops nid o (env, σ) = some (env', σ')) :
    StepSpec (stepO P C base isv bs ops nid o) (readsOf bs ops o) (writesOf bs o) (hcOf P pure grow isv bs o) nid env σ env' σ' := by
  unfold stepO at h
  split at h
  · rename_i hd
    have hd2 : ∀ {env2 : Env}, Agree env env2 (readsOf bs ops o ++ writesOf bs o) → okDst env2 o.dst = true := fun {env2} ha => by
      rw [okDst_congr (env := env) (fun t ht => ha.get t (List.mem_append.2 (.inr (by unfold writesOf; exact List.mem_append.2 (.inl ht)))))]; exact hd
    have hw2 : ∀ {env2 : Env}, Agree env env2 (readsOf bs ops o ++ writesOf bs o) → wantedA ops env2 o = wantedA ops env o := fun {env2} ha =>
      wantedA_congr fun t ht => ha.get t (List.mem_append.2 (.inl ht))
    have hdW : ∀ (s : Slot), ∀ p ∈ dU o.dst s, p.1 ∈ writesOf bs o := fun s p hp => by
      unfold writesOf
      refine List.mem_append.2 (.inl ?_)
      cases hdd : o.dst with
      | none => rw [hdd] at hp; cases hp
      | some d => rw [hdd] at hp; simp [dU] at hp; subst hp; simp
    split at h
    · rename_i hw
      split at h
      · rename_i e1 s1 sl hev
        cases h
        by_cases hst : ∃ t a x, o.op = .store t a x
        · obtain ⟨t, a, x, hst⟩ := hst
          have hev' := hev
          unfold evalOp at hev'
          simp only [hst] at hev'
          split at hev'
          · rename_i e2 s2 hS
            cases hev'
            have hstep : ∀ env2 σ2 e3 s3, Agree env env2 (readsOf bs ops o ++ writesOf bs o) → evalS P base bs env2 σ2 t a x = some (e3, s3) → stepO P C base isv bs ops nid o (env2, σ2) = some (putA e3 o.dst .und, s3) := fun env2 σ2 e3 s3 ha hS2 => by
              unfold stepO
              rw [if_pos (hd2 ha), hw2 ha, hw]
              simp only [evalOp, hst, hS2]
            rcases evalS_spec hS with ⟨tt, s, cs, e1, e2, e3, e4, e5, e6⟩ | ⟨e1, e2, e3⟩
            · subst e3; subst e4; subst e1
              have hk : hcOf P pure grow isv bs o = .no := by unfold hcOf; rw [hst]; simp [e2]
              refine ⟨(s, .var cs) :: dU o.dst .und, fun p hp => ?_, putA_set_U, .inl ⟨rfl, fun env2 σ2 ha _ => ?_⟩⟩
              · rcases List.mem_cons.1 hp with rfl | hp
                · unfold writesOf; rw [hst]; simp [e2]
                · exact hdW _ p hp
              · rw [hstep env2 σ2 _ _ ha (e6 env2 σ2 (agree_look ha _ (by simp [hst, Op.operands])) (agree_look ha _ (by simp [hst, Op.operands])) (ha.get s (by
                  refine List.mem_append.2 (.inr ?_)
                  unfold writesOf; rw [hst]; simp [e2]))), putA_set_U]
            · subst e1
              have hk : hcOf P pure grow isv bs o = .wr := by
                unfold hcOf; rw [hst]
                cases a with
                | tmp tt => simp [e2 tt rfl]
                | _ => rfl
              refine ⟨dU o.dst .und, hdW _, putA_U, .inr (.inr ⟨.inl hk, fun env2 ha => ?_⟩)⟩
              rw [hstep env2 σ _ _ ha (e3 env2 (agree_look ha _ (by simp [hst, Op.operands])) (agree_look ha _ (by simp [hst, Op.operands]))), putA_U]
          · cases hev'
        · have hns : ∀ t a x, o.op ≠ .store t a x := fun t a x e => hst ⟨t, a, x, e⟩
          have hV : evalV P C base isv bs nid env σ o = some (σ', sl) ∧ e1 = env := by
            rw [evalOp_noS hns] at hev
            split at hev
            · rename_i hv; cases hev; exact ⟨hv, rfl⟩
            · cases hev
          obtain ⟨hV, rfl⟩ := hV
          have hstep : ∀ env2 σ2 s3, Agree e1 env2 (readsOf bs ops o ++ writesOf bs o) → evalV P C base isv bs nid e1 σ2 o = some (s3, sl) → stepO P C base isv bs ops nid o (env2, σ2) = some (applyU (dU o.dst sl) env2, s3) := fun env2 σ2 s3 ha hS2 => by
            unfold stepO
            rw [if_pos (hd2 ha), hw2 ha, hw]
            simp only [evalOp_noS hns]
            rw [agree_evalV ha, hS2]
            simp only [putA_U]
          refine ⟨dU o.dst sl, hdW _, putA_U, ?_⟩
          cases hk : hcOf P pure grow isv bs o with
          | no =>
            obtain ⟨rfl, hh⟩ := evalV_no hk hV
            exact .inl ⟨rfl, fun env2 σ2 ha _ => hstep env2 σ2 _ ha (hh _ _)⟩
          | rd =>
            obtain ⟨rfl, hh⟩ := evalV_rd hk hV
            exact .inl ⟨rfl, fun env2 σ2 ha hs => hstep env2 σ2 _ ha (hh _ _ hs)⟩
          | call =>
            have := evalV_call hp hk hV
            subst this
            exact .inl ⟨rfl, fun env2 σ2 ha hs => by cases hs; exact hstep env2 _ _ ha hV⟩
          | new =>
            obtain ⟨ob, h1, h2, h3, h4⟩ := evalV_new hk hV
            exact .inr (.inl ⟨rfl, ob, h1, h2, h3, fun env2 σ2 ha hs => hstep env2 _ _ ha (h4 σ2 hs)⟩)
          | wr => exact .inr (.inr ⟨.inl rfl, fun env2 ha => hstep env2 _ _ ha hV⟩)
          | grow => exact .inr (.inr ⟨.inr (.inl ⟨rfl, evalV_grow hg hk hV⟩), fun env2 ha => hstep env2 _ _ ha hV⟩)
          | app => exact .inr (.inr ⟨.inr (.inr ⟨rfl, evalV_app hk hV⟩), fun env2 ha => hstep env2 _ _ ha hV⟩)
          | rdc =>
            obtain ⟨rfl, hh⟩ := evalV_rdc hk hV
            exact .inl ⟨rfl, fun env2 σ2 ha hs => hstep env2 σ2 _ ha (hh _ _ hs)⟩
      · cases h
    · rename_i hw
      cases h
      refine ⟨dU o.dst .und, hdW _, putA_U, .inl ⟨rfl, fun env2 σ2 ha _ => ?_⟩⟩
      unfold stepO
      rw [if_pos (hd2 ha), hw2 ha, hw]
      simp only [putA_U]
    · cases h
  · cases h

theorem Sup.refl {σ : St} : Sup σ σ := fun _ _ h _ => h
theorem Sup.set {σ : St} {k : Nat} {x : Ob} (h : σ[k]? = some Ob.none) : Sup σ (σ.set k x) := fun j y hj hy => by
  rw [List.getElem?_set_ne]
  · exact hj
  · intro e; subst e; rw [h] at hj; cases hj; exact hy rfl

theorem agree_after {env : Env} {us : List (Tmp × Slot)} {L : List Tmp} (h : ∀ p ∈ us, p.1 ∉ L) : Agree (applyU us env) env L :=
  ⟨applyU_length.symm, fun t ht => (applyU_get fun p hp e => h p hp (e ▸ ht)).symm⟩

theorem Agree.symm {env env2 : Env} {L : List Tmp} (h : Agree env env2 L) : Agree env2 env L := ⟨h.len.symm, fun t ht => (h.get t ht).symm⟩

theorem disj_not {a b : List Tmp} (h : disj a b = true) {x : Tmp} (hx : x ∈ a) : x ∉ b := by
  unfold disj at h
  have := List.all_eq_true.1 h x hx
  simpa using this

/-- 'x' before 'y' in the text, exchangeable: 'y' may be carried out first. -/
theorem swapO {stepX stepY : Env × St → Option (Env × St)} {Rx Wx Ry Wy : List Tmp} {kx ky : HC} {nx ny : Nat} {e1 e2 : Env} {s1 s2 : St}
    (d1 : disj Wx Ry = true) (d2 : disj Wx Wy = true) (d3 : disj Wy Rx = true) (hk : HC.ok kx ky = true)
    (hx : StepSpec stepX Rx Wx kx nx env σ e1 s1) (hy : StepSpec stepY Ry Wy ky ny e1 s1 e2 s2) :
    ∃ m, stepY (env, σ) = some m ∧ stepX m = some (e2, s2) := by
  obtain ⟨ux, hux, rfl, hx⟩ := hx
  obtain ⟨uy, huy, rfl, hy⟩ := hy
  have A1 : Agree (applyU ux env) env (Ry ++ Wy) := agree_after fun p hp hm => by
    rcases List.mem_append.1 hm with h | h
    · exact disj_not d1 (hux p hp) h
    · exact disj_not d2 (hux p hp) h
  have A2 : Agree env (applyU uy env) (Rx ++ Wx) := (agree_after fun p hp hm => by
    rcases List.mem_append.1 hm with h | h
    · exact disj_not d3 (huy p hp) h
    · exact disj_not d2 h (huy p hp)).symm
  have hcm : applyU uy (applyU ux env) = applyU ux (applyU uy env) := (applyU_comm fun p hp q hq e => disj_not d2 (hux p hp) (e ▸ huy q hq)).symm
  rw [hcm]
  rcases hx with ⟨rfl, hx⟩ | ⟨rfl, ob, hob, hn, rfl, hx⟩ | ⟨hkx, hx⟩
  · rcases hy with ⟨rfl, hy⟩ | ⟨rfl, ob, hob, hn, rfl, hy⟩ | ⟨hky, hy⟩
    · refine ⟨_, hy env s2 A1 (by cases ky <;> simp [DomOk, Sup.refl, SupC.refl]), hx _ _ A2 (by cases kx <;> simp [DomOk, Sup.refl, SupC.refl])⟩
    · refine ⟨_, hy env s1 A1 hn, hx _ _ A2 ?_⟩
      cases kx <;> simp [DomOk, HC.ok] at hk ⊢
      · exact Sup.set hn
      · exact (Sup.set hn).supC
    · refine ⟨_, hy env A1, hx _ _ A2 ?_⟩
      rcases hky with rfl | ⟨rfl, hsup⟩ | ⟨rfl, hsup⟩
      · cases kx <;> simp [DomOk, HC.ok] at hk ⊢
      · cases kx <;> simp [DomOk, HC.ok] at hk ⊢
        · exact hsup
        · exact hsup.supC
      · cases kx <;> simp [DomOk, HC.ok] at hk ⊢
        exact hsup
  · rcases hy with ⟨rfl, hy⟩ | ⟨rfl, ob', hob', hn', rfl, hy⟩ | ⟨hky, hy⟩
    · refine ⟨_, hy env σ A1 ?_, hx _ _ A2 hn⟩
      cases ky <;> simp [DomOk, HC.ok] at hk ⊢
    · have hne : nx ≠ ny := by
        intro e; subst e
        rw [List.getElem?_set_self (List.getElem?_eq_some_iff.1 hn).1] at hn'
        cases hn'; exact hob rfl
      have hn2 : σ[ny]? = some Ob.none := by rwa [List.getElem?_set_ne hne] at hn'
      refine ⟨_, hy env σ A1 hn2, ?_⟩
      rw [hx _ _ A2 (by rw [List.getElem?_set_ne hne.symm]; exact hn), List.set_comm _ _ hne]
    · rcases hky with rfl | ⟨rfl, _⟩ | ⟨rfl, _⟩ <;> simp [HC.ok] at hk
  · rcases hy with ⟨rfl, hy⟩ | ⟨rfl, ob', hob', hn', rfl, hy⟩ | ⟨hky, hy⟩
    · refine ⟨_, hy env σ A1 ?_, hx _ A2⟩
      rcases hkx with rfl | ⟨rfl, _⟩ | ⟨rfl, _⟩ <;> (cases ky <;> simp [DomOk, HC.ok] at hk ⊢)
    · rcases hkx with rfl | ⟨rfl, _⟩ | ⟨rfl, _⟩ <;> simp [HC.ok] at hk
    · rcases hkx with rfl | ⟨rfl, _⟩ | ⟨rfl, _⟩ <;> rcases hky with rfl | ⟨rfl, _⟩ | ⟨rfl, _⟩ <;> simp [HC.ok] at hk

theorem swapI (hp : ∀ f args σ base r σ', pure f = true → C f args σ base = some (r, σ') → σ' = σ) (hg : ∀ f args σ base r σ', grow f = true → C f args σ base = some (r, σ') → Sup σ σ') {n0 i a : Nat} {x y : Oper} {s s1 s2 : Env × St}
    (hx : ops[i]? = some x) (hy : ops[a]? = some y) (hi : indep P pure grow isv bs ops x y = true)
    (h1 : stepA P C base isv bs ops n0 i s = some s1) (h2 : stepA P C base isv bs ops n0 a s1 = some s2) :
    ∃ m, stepA P C base isv bs ops n0 a s = some m ∧ stepA P C base isv bs ops n0 i m = some s2 := by
  unfold indep at hi
  simp only [Bool.and_eq_true] at hi
  obtain ⟨⟨⟨d1, d2⟩, d3⟩, hk⟩ := hi
  rw [stepA_stepO hx] at h1
  rw [stepA_stepO hy] at h2
  obtain ⟨m, h3, h4⟩ := swapO d1 d2 d3 hk (step_spec (pure := pure) (grow := grow) hp hg (env := s.1) (σ := s.2) (env' := s1.1) (σ' := s1.2) h1) (step_spec (pure := pure) (grow := grow) hp hg (env := s1.1) (σ := s1.2) (env' := s2.1) (σ' := s2.2) h2)
  exact ⟨m, by rw [stepA_stepO hy]; exact h3, by rw [stepA_stepO hx]; exact h4⟩

end
end Go.Can
