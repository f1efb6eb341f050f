/- The operations, fifth part: maps. -/
import Derived.Test.YtgcfhcgnkohfkaaCanG
set_option linter.unusedSimpArgs false
set_option linter.unusedVariables false
namespace Go.Can
open Go Go.RowKit
section
variable {P : Program} {w : World} {M : Mem} {θ : Th} {σ : St} {π : Nat → Option Nat} {env : Env} {o : Oper} {a : Act}

theorem getObj_map {r : Nat} {us : Array MapEntry} {cl : Nat} (h : w.heap[r]? = some (.map us cl)) : (getObj r).run P w = .ok (.map us cl) w := by simp [getObj, Sem.run, h]
theorem setObj_map {r : Nat} {us : Array MapEntry} {cl : Nat} (x : Obj) (h : w.heap[r]? = some (.map us cl)) : (setObj r x).run P w = .ok () { w with heap := w.heap.setIfInBounds r x } := by simp [setObj, Sem.run, h]

def EntL (M : Mem) (θ : Th) (es : List (AV × AV)) (us : List MapEntry) : Prop :=
  us.length = es.length ∧ ∀ (i : Nat) (k v : AV), es[i]? = some (k, v) → ∃ e : MapEntry, us[i]? = some e ∧ RepA M θ k e.key ∧ RepA M θ v e.val

theorem EntR.toL {es : List (AV × AV)} {us : Array MapEntry} (h : EntR M θ es us) : EntL M θ es us.toList :=
  ⟨by simpa using h.1, fun i k v hk => by obtain ⟨e, h1, h2⟩ := h.2 i k v hk; exact ⟨e, by simpa using h1, h2⟩⟩

theorem EntL.cons {k v : AV} {es : List (AV × AV)} {us : List MapEntry} (h : EntL M θ ((k, v) :: es) us) : ∃ e us', us = e :: us' ∧ RepA M θ k e.key ∧ RepA M θ v e.val ∧ EntL M θ es us' := by
  cases us with
  | nil => have := h.1; simp at this
  | cons e us' =>
    obtain ⟨e', h1, h2, h3⟩ := h.2 0 k v rfl
    simp at h1; subst h1
    exact ⟨e, us', rfl, h2, h3, by have := h.1; simpa using this, fun i k' v' hk => by simpa using h.2 (i + 1) k' v' (by simpa using hk)⟩

/-- What is found in a map: nothing, or an entry's place and value. -/
def FoundR (M : Mem) (θ : Th) : Option (Nat × AV) → Option (Nat × Value) → Prop
  | none, r' => r' = none
  | some (j, v), r' => ∃ z, r' = some (j, z) ∧ RepA M θ v z

theorem findAsking_run {kt : TypeId} {k : AV} {u : Value} (hk : keyOk P kt k = true) (hu : RepA M θ k u) : ∀ {es : List (AV × AV)} {us : List MapEntry} {i : Nat} {r : Option (Nat × AV)}, EntL M θ es us → findE k es i = some r →
    ∃ r', (Instr.findAsking kt u us i).run P w = .ok r' w ∧ FoundR M θ r r'
  | [], us, i, r, he, h => by
    have : us = [] := List.eq_nil_of_length_eq_zero (by simpa using he.1)
    subst this
    simp only [findE] at h; cases h
    exact ⟨none, by simp [Instr.findAsking], rfl⟩
  | (k', v) :: es, us, i, r, he, h => by
    obtain ⟨e, us', rfl, h1, h2, h3⟩ := he.cons
    simp only [findE] at h
    split at h
    · rename_i hq; cases h
      have := keyEq_run (P := P) (w := w) (d := 9998) hq hu h1 hk
      exact ⟨some (i, e.val), by simp only [Instr.findAsking, Op.equal, Op.maxDepth, Sem.run_bind, this, Result.andThen_ok, if_true, Sem.run_pure], e.val, rfl, h2⟩
    · rename_i hq
      have := keyEq_run (P := P) (w := w) (d := 9998) hq hu h1 hk
      obtain ⟨r', h4, h5⟩ := findAsking_run hk hu h3 h
      exact ⟨r', by simp only [Instr.findAsking, Op.equal, Op.maxDepth, Sem.run_bind, this, Result.andThen_ok, Bool.false_eq_true, if_false, h4], h5⟩
    · cases h

theorem sameNow_keyEq {d : TypeDesc} {k k' : AV} {u u' : Value} {b b' : Bool} (hu : RepA M θ k u) (hu' : RepA M θ k' u') (h : Instr.sameNow d u u' = some b) (hq : keyEq k k' = some b') : b = b' := by
  unfold keyEq at hq
  split at hq
  · obtain ⟨us, rfl, _⟩ := hu
    obtain ⟨vs, rfl, _⟩ := hu'
    unfold Instr.sameNow at h
    split at h <;> simp_all
  · have a1 : ∀ cs, k ≠ .agg cs := fun cs e => by subst e; simp [cellEq] at hq
    have a2 : ∀ cs, k' ≠ .agg cs := fun cs e => by subst e; unfold cellEq at hq; split at hq <;> simp_all
    have c1 := hu.cell a1
    have c2 := hu'.cell a2
    unfold cellEq at hq
    split at hq
    · cases c1; cases c2
      unfold Instr.sameNow at h
      split at h <;> simp_all
    · cases c1; cases c2
      unfold Instr.sameNow at h
      split at h <;> simp_all
    · cases c1; cases c2
      unfold Instr.sameNow at h
      split at h <;> simp_all [beq_toListBytes]
    · cases hq

theorem findNow_same {d : TypeDesc} {k : AV} {u : Value} (hu : RepA M θ k u) : ∀ {es : List (AV × AV)} {us : List MapEntry} {i : Nat} {r : Option (Nat × AV)} {r' : Option (Nat × Value)}, EntL M θ es us → findE k es i = some r →
    Instr.findNow d u us i = some r' → FoundR M θ r r'
  | [], us, i, r, r', he, h, h' => by
    have : us = [] := List.eq_nil_of_length_eq_zero (by simpa using he.1)
    subst this
    simp only [findE] at h; cases h
    simp only [Instr.findNow] at h'; cases h'
    rfl
  | (k', v) :: es, us, i, r, r', he, h, h' => by
    obtain ⟨e, us', rfl, h1, h2, h3⟩ := he.cons
    simp only [findE] at h
    simp only [Instr.findNow] at h'
    split at h
    · rename_i hq; cases h
      split at h'
      · cases h'; exact ⟨e.val, rfl, h2⟩
      · rename_i hn; have := sameNow_keyEq hu h1 hn hq; cases this
      · cases h'
    · rename_i hq
      split at h'
      · rename_i hn; have := sameNow_keyEq hu h1 hn hq; cases this
      · exact findNow_same hu h3 h h'
      · cases h'
    · cases h

theorem cellOk_under {t : TypeId} {k : AV} (h : cellOk P t k = true) : ∃ d, P.underlying t = some d ∧ (d = .bool ∨ (∃ q, d = .int q) ∨ d = .string) := by
  unfold cellOk at h
  split at h
  · split at h
    · rename_i e; exact ⟨_, e, .inl rfl⟩
    · cases h
  · split at h
    · rename_i q e; exact ⟨_, e, .inr (.inl ⟨q, rfl⟩)⟩
    · cases h
  · split at h
    · rename_i e; exact ⟨_, e, .inr (.inr rfl)⟩
    · cases h
  · cases h

theorem keyOk_under {t : TypeId} {k : AV} (h : keyOk P t k = true) : ∃ d, P.underlying t = some d := by
  unfold keyOk at h
  split at h
  · split at h
    · rename_i fs e; exact ⟨_, e⟩
    · cases h
  · obtain ⟨d, e, _⟩ := cellOk_under h; exact ⟨d, e⟩

theorem findKey_run {kt : TypeId} {k : AV} {u : Value} (hk : keyOk P kt k = true) (hu : RepA M θ k u) {es : List (AV × AV)} {us : List MapEntry} {r : Option (Nat × AV)} (he : EntL M θ es us) (h : findE k es 0 = some r) :
    ∃ r', (Instr.findKey kt u us).run P w = .ok r' w ∧ FoundR M θ r r' := by
  obtain ⟨d, hd⟩ := keyOk_under hk
  simp only [Instr.findKey, Sem.run_bind, run_underlying hd, Result.andThen_ok]
  cases e : Instr.findNow d u us 0 with
  | none =>
    simp only
    exact findAsking_run hk hu he h
  | some r' => exact ⟨r', rfl, findNow_same hu he h e⟩

theorem checkKey_basic {em : Bool} {n : Nat} {t : TypeId} {u : Value} (h : basicT P t = true) : (Instr.checkKey em (n + 1) t u).run P w = .ok () w := by
  unfold basicT at h
  split at h
  · rename_i e; simp [Instr.checkKey, run_underlying e]
  · rename_i q e; simp [Instr.checkKey, run_underlying e]
  · rename_i e; simp [Instr.checkKey, run_underlying e]
  · cases h

theorem checkFs_run (em : Bool) (n : Nat) {cs : List AV} {us : Array Value} (hu : CellsR M θ cs us) : ∀ (fs : List Field) (i : Nat), flatFs P fs i = true → cellsOk P fs (cs.drop i) = true →
    (forIn fs PUnit.unit (fun f _ => (if f.name ≠ "_" then (do
        let x ← Go.part f.type us f.offset
        Instr.checkKey em (n + 1) f.type x
        pure (ForInStep.yield PUnit.unit)) else pure (ForInStep.yield PUnit.unit) : Sem (ForInStep PUnit)))).run P w = .ok PUnit.unit w
  | [], i, _, _ => by simp
  | f :: fs, i, h1, h2 => by
    simp only [flatFs, Bool.and_eq_true, bne_iff_ne, beq_iff_eq] at h1
    obtain ⟨⟨⟨⟨hb, ho⟩, hn⟩, _⟩, h1⟩ := h1
    cases e : cs.drop i with
    | nil => rw [e] at h2; simp [cellsOk] at h2
    | cons c cs' =>
      have d1 : cs.drop (i + 1) = cs' := by rw [← List.drop_drop, e]; rfl
      have g1 : cs[i]? = some c := by rw [← List.head?_drop, e]; rfl
      have l1 : i < us.size := by rw [hu.1]; exact (List.getElem?_eq_some_iff.1 g1).1
      rw [e] at h2; simp only [cellsOk, Bool.and_eq_true] at h2
      have p1 : (Go.part f.type us f.offset).run P w = .ok (us.getD i undef) w := by
        have q : us[i]? = some (us.getD i undef) := by simp [Array.getD_eq_getD_getElem?, l1]
        simp only [Go.part, Sem.run_bind, basicT_agg hb, Result.andThen_ok, ho, q]; simp
      have ih := checkFs_run em n hu fs (i + 1) h1 (by rw [d1]; exact h2.2)
      simp only [List.forIn_cons]
      rw [if_pos hn]
      simp only [bind_assoc, Sem.run_bind, p1, Result.andThen_ok, checkKey_basic hb, Sem.run_pure]
      exact ih

theorem checkKey_run {em : Bool} {kt : TypeId} {k : AV} {u : Value} (hk : keyOk P kt k = true) (hu : RepA M θ k u) : (Instr.checkKey em 10000 kt u).run P w = .ok () w := by
  unfold keyOk at hk
  split at hk
  · rename_i cs
    obtain ⟨us, rfl, h1⟩ := hu
    split at hk
    · rename_i fs hfs
      simp only [Bool.and_eq_true] at hk
      obtain ⟨fs', hfs', f1, _⟩ := flatT_spec hk.1
      rw [hfs] at hfs'; cases hfs'
      have := checkFs_run (P := P) (w := w) em 9998 h1 fs.toList 0 f1 (by simpa using hk.2)
      show (Instr.checkKey em (9999 + 1) kt (.agg us)).run P w = _
      rw [Instr.checkKey]
      simp only [Sem.run_bind, run_underlying hfs, Result.andThen_ok]
      rw [← Array.forIn_toList]
      refine (congrArg (fun r => Result.andThen r _) this).trans ?_
      rfl
    · cases hk
  · obtain ⟨d, hd, h1⟩ := cellOk_under hk
    refine checkKey_basic (n := 9999) ?_
    unfold basicT
    rw [hd]
    rcases h1 with rfl | ⟨q, rfl⟩ | rfl <;> rfl

theorem zeroOf_run {t : TypeId} {z : AV} (h : zeroOf P t = some z) : ∃ u, (zeroValue t).run P w = .ok u w ∧ RepA M θ z u := by
  unfold zeroOf at h
  cases hi : P.info? t with
  | none => rw [hi] at h; cases h
  | some i =>
    rw [hi] at h
    cases hi2 : i.zero with
    | none => simp [hi2] at h
    | some zv =>
      have hz' : ofV zv = some z := by simpa [hi2] using h
      exact ⟨zv, by simp [zeroValue, typeInfo, hi, hi2], ofV_sound hz' M θ⟩

theorem op_lookup {t kt e : TypeId} {x y : Operand} {ok : Bool} {m k : AV} {r : Option AV} {v : AV} (hs : StR w M θ σ) (hf : FrR w M θ σ π env a.tmps) (hd : okDst env o.dst = true) (ho : o.op = .lookup t x y ok)
    (hx : lookV env x = some m) (hy : lookV env y = some k) (hr : mapGet P σ t m k = some r) (ht : lowMapOk P t = some (kt, e)) (hv : orZero r (zeroOf P e) = some v) :
    OpS P w M θ σ π o a env σ (if ok then .val (.tup [v, .bool r.isSome]) else .val v) := by
  have hm := lookV_sound hf hx
  have hk := lookV_sound hf hy
  have hu := lowMapOk_spec ht
  unfold mapGet at hr
  rw [ht] at hr
  simp only at hr
  split at hr
  · rename_i hkok
    have key : ∃ z, (Instr.lookup t (a.eval x) (a.eval y) ok).run P w = .ok (if ok then .tuple #[z, .bool r.isSome] else z) w ∧ RepA M θ v z := by
      split at hr
      · cases hr
        have e1 := hm.rep.mapN
        obtain ⟨z, hz, hz2⟩ := zeroOf_run (P := P) (w := w) (M := M) (θ := θ) hv
        obtain ⟨d, hd'⟩ := keyOk_under hkok
        refine ⟨z, ?_, hz2⟩
        have hc := checkKey_run (P := P) (w := w) (em := true) hkok hk
        simp only [Instr.lookup, e1, Sem.run_bind, run_underlying hu, Result.andThen_ok, Sem.run_pure, Array.isEmpty_empty, hc, Instr.findKey, run_underlying hd', Instr.findNow, hz]
        cases ok <;> simp
      · rename_i id
        split at hr
        · rename_i es hes
          obtain ⟨g, hg, e1⟩ := hm.rep.mapS
          obtain ⟨_, g', us, clock, h1, h2, h3, hbn⟩ := hs.ob _ _ hes
          rw [hg] at h1; cases h1
          cases hfe : findE k es 0 with
          | none => rw [hfe] at hr; cases hr
          | some r0 =>
            rw [hfe] at hr
            simp only [Option.map_some, Option.some.injEq] at hr
            obtain ⟨r', h4, h5⟩ := findKey_run (P := P) (w := w) hkok hk h3.toL hfe
            have hc := checkKey_run (P := P) (w := w) (em := us.isEmpty) hkok hk
            cases r0 with
            | none =>
              subst hr
              subst h5
              obtain ⟨z, hz, hz2⟩ := zeroOf_run (P := P) (w := w) (M := M) (θ := θ) hv
              refine ⟨z, ?_, hz2⟩
              simp only [Instr.lookup, e1, Sem.run_bind, run_underlying hu, Result.andThen_ok, getObj_map h2, Sem.run_pure, hc, h4, hz]
              cases ok <;> simp
            | some jv =>
              subst hr
              obtain ⟨z, rfl, hz2⟩ := h5
              simp only [orZero, Option.map_some, Option.some.injEq] at hv
              subst hv
              refine ⟨z, ?_, hz2⟩
              simp only [Instr.lookup, e1, Sem.run_bind, run_underlying hu, Result.andThen_ok, getObj_map h2, Sem.run_pure, hc, h4]
              cases ok <;> simp
        · cases hr
      · cases hr
    obtain ⟨z, hz, hz2⟩ := key
    cases ok with
    | true =>
      refine .sameV (u := .tuple #[z, .bool r.isSome]) hs hf hd (by simp only [execOp, ho, Sem.run_bind, hz]; rfl) ⟨_, rfl, rfl, fun i c hi => ?_⟩
      match i, hi with
      | 0, hi => cases hi; exact hz2
      | 1, hi => cases hi; exact (Cell.bool _).repA
    | false => exact .sameV (u := z) hs hf hd (by simp only [execOp, ho, Sem.run_bind, hz]; rfl) hz2.rep
  · cases hr

theorem Born.modify {us : Array MapEntry} {cl i : Nat} {f : MapEntry → MapEntry} (h : Born us cl) (hf : ∀ e, (f e).born = e.born) : Born (us.modify i f) cl := by
  have e : (us.modify i f).toList.map (·.born) = us.toList.map (·.born) := by
    apply List.ext_getElem?
    intro j
    simp only [List.getElem?_map, Array.getElem?_toList, Array.getElem?_modify]
    split
    · cases us[j]? <;> simp [hf]
    · rfl
  refine ⟨fun x hx => ?_, by rw [e]; exact h.2⟩
  have hm : x.born ∈ (us.modify i f).toList.map (·.born) := List.mem_map.2 ⟨x, hx, rfl⟩
  rw [e] at hm
  obtain ⟨y, hy, he⟩ := List.mem_map.1 hm
  rw [← he]; exact h.1 y hy

theorem Born.push {us : Array MapEntry} {cl : Nat} {k v : Value} (h : Born us cl) : Born (us.push { key := k, val := v, born := cl }) (cl + 1) := by
  refine ⟨fun x hx => ?_, ?_⟩
  · rw [Array.toList_push] at hx
    rcases List.mem_append.1 hx with hx | hx
    · have := h.1 x hx; omega
    · simp at hx; rw [hx]; exact Nat.lt_succ_self _
  · rw [Array.toList_push, List.map_append]
    have h2 : (us.toList.map (·.born)).Pairwise (· ≠ ·) := h.2
    show (_ ++ _ : List Nat).Pairwise (· ≠ ·)
    refine List.pairwise_append.2 ⟨h2, by simp, fun a ha b hb => ?_⟩
    simp at hb
    obtain ⟨y, hy, he⟩ := List.mem_map.1 ha
    have := h.1 y hy
    omega

theorem Born.erase {us : Array MapEntry} {cl i : Nat} (h : Born us cl) : Born (us.eraseIdxIfInBounds i) cl := by
  have e5 : (us.eraseIdxIfInBounds i).toList = us.toList.eraseIdx i := by simp
  refine ⟨fun x hx => ?_, ?_⟩
  · rw [e5] at hx
    exact h.1 x (List.mem_of_mem_eraseIdx hx)
  · rw [e5]
    have h2 : (us.toList.map (·.born)).Pairwise (· ≠ ·) := h.2
    show (_ : List Nat).Pairwise (· ≠ ·)
    exact h2.sublist ((List.eraseIdx_sublist _ _).map _)

/-- A map's block is replaced. -/
theorem map_set {id g : Nat} {es es' : List (AV × AV)} {us us' : Array MapEntry} {cl cl' : Nat} (hs : StR w M θ σ) (hx : σ[id]? = some (.map es)) (hg : θ.tc id = some g) (hh : w.heap[g]? = some (.map us cl)) (he : EntR M θ es' us') (hbn : Born us' cl') :
    Ext0 w M θ σ { w with heap := w.heap.setIfInBounds g (.map us' cl') } M θ (σ.set id (.map es')) ∧ StR { w with heap := w.heap.setIfInBounds g (.map us' cl') } M θ (σ.set id (.map es')) := by
  have hlt : id < σ.length := (List.getElem?_eq_some_iff.1 hx).1
  have hgl : g < w.heap.size := (Array.getElem?_eq_some_iff.1 hh).1
  have h0 := hs.ob _ _ hx
  refine set_ext hs hx θ.le_refl (fun j _ => ⟨fun _ => rfl, rfl⟩) (fun k _ hk => ?_) (fun k hk => .inl (by rw [ownAt_set hlt] at hk; unfold OwnAt; rw [hx]; exact hk)) ⟨h0.1, g, us', cl', hg, ?_, he, hbn⟩ rfl rfl rfl (by simp)
  · show (w.heap.setIfInBounds g _)[k]? = _
    rw [Array.getElem?_setIfInBounds_ne]
    intro e; subst e; exact hk (by unfold OwnAt; rw [hx]; exact hg)
  · show (w.heap.setIfInBounds g _)[g]? = _
    simp [hgl]

theorem findE_lt {k : AV} : ∀ {es : List (AV × AV)} {i j : Nat} {v : AV}, findE k es i = some (some (j, v)) → i ≤ j ∧ ∃ k', es[j - i]? = some (k', v) ∧ keyEq k k' = some true
  | [], i, j, v, h => by simp [findE] at h
  | (k', v') :: es, i, j, v, h => by
    simp only [findE] at h
    split at h
    · rename_i hq; cases h; exact ⟨Nat.le_refl _, k', by simp, hq⟩
    · obtain ⟨h1, k2, h2, h3⟩ := findE_lt h
      refine ⟨by omega, k2, ?_, h3⟩
      have : j - i = (j - (i + 1)) + 1 := by omega
      rw [this]; simpa using h2
    · cases h

theorem sameBits_cells : ∀ {xs ys : List AV} {us vs : Array Value}, CellsR M θ xs us → CellsR M θ ys vs → cellsEq xs ys = some true → ∀ n, ((us.toList.zip vs.toList).all fun (x, y) => Instr.sameBits n x y) = true ∧ us.size = vs.size := by
  intro xs
  induction xs with
  | nil =>
    intro ys us vs h1 h2 h n
    cases ys with
    | nil =>
      have e1 : us = #[] := Array.eq_empty_of_size_eq_zero (by simpa using h1.1)
      have e2 : vs = #[] := Array.eq_empty_of_size_eq_zero (by simpa using h2.1)
      subst e1; subst e2; simp
    | cons y ys => simp [cellsEq] at h
  | cons x xs ih =>
    intro ys us vs h1 h2 h n
    cases ys with
    | nil => simp [cellsEq] at h
    | cons y ys =>
      simp only [cellsEq] at h
      split at h
      · rename_i hq
        obtain ⟨us⟩ := us
        obtain ⟨vs⟩ := vs
        cases us with
        | nil => have := h1.1; simp at this
        | cons u us =>
          cases vs with
          | nil => have := h2.1; simp at this
          | cons v vs =>
            have g1 : CellsR M θ xs us.toArray := ⟨by have := h1.1; simpa using this, fun i c hc => by simpa [Array.getD_eq_getD_getElem?] using h1.2 (i + 1) c (by simpa using hc)⟩
            have g2 : CellsR M θ ys vs.toArray := ⟨by have := h2.1; simpa using this, fun i c hc => by simpa [Array.getD_eq_getD_getElem?] using h2.2 (i + 1) c (by simpa using hc)⟩
            have := ih g1 g2 h n
            have c1 : Cell M θ x u := by simpa [Array.getD_eq_getD_getElem?] using h1.2 0 x rfl
            have c2 : Cell M θ y v := by simpa [Array.getD_eq_getD_getElem?] using h2.2 0 y rfl
            have hb : Instr.sameBits n u v = true := by
              unfold cellEq at hq
              split at hq
              · cases c1; cases c2
                split at hq
                · rename_i e; subst e; simp at hq; simp [Instr.sameBits, hq]
                · cases hq
              · cases c1; cases c2; simp at hq; simp [Instr.sameBits, hq]
              · rename_i s s'
                cases c1; cases c2
                have : (s == s') = true := by rw [beq_toListBytes]; simpa using hq
                simp only [Instr.sameBits]; exact this
              · cases hq
            refine ⟨?_, by have := this.2; simpa using this⟩
            simp only [List.zip_cons_cons, List.all_cons, hb, Bool.true_and]
            exact this.1
      · cases h
      · cases h

theorem keyStays_run {k k' : AV} {u u' : Value} (h1 : RepA M θ k u) (h2 : RepA M θ k' u') (h : keyEq k k' = some true) : (Instr.keyThatStays u' u).run P w = .ok u w := by
  have hb : Instr.sameBits 10000 u' u = true := by
    unfold keyEq at h
    split at h
    · rename_i xs ys
      obtain ⟨us, rfl, g1⟩ := h1
      obtain ⟨vs, rfl, g2⟩ := h2
      have hsym : cellsEq ys xs = some true := by
        clear g1 g2
        induction xs generalizing ys with
        | nil => cases ys with
          | nil => rfl
          | cons y ys => simp [cellsEq] at h
        | cons x xs ih => cases ys with
          | nil => simp [cellsEq] at h
          | cons y ys =>
            simp only [cellsEq] at h ⊢
            split at h
            · rename_i hq
              have : cellEq y x = some true := by
                unfold cellEq at hq ⊢
                split at hq
                · split at hq
                  · rename_i e; subst e; simp at hq; simp [hq]
                  · cases hq
                · simp at hq; simp [hq]
                · simp at hq; simp [hq]
                · cases hq
              rw [this]
              exact ih _ h
            · cases h
            · cases h
      have := sameBits_cells g2 g1 hsym 9999
      show Instr.sameBits (9999 + 1) (.agg vs) (.agg us) = true
      simp only [Instr.sameBits, Bool.and_eq_true, beq_iff_eq]
      exact ⟨this.2, this.1⟩
    · have a1 : ∀ cs, k ≠ .agg cs := fun cs e => by subst e; simp [cellEq] at h
      have a2 : ∀ cs, k' ≠ .agg cs := fun cs e => by subst e; unfold cellEq at h; split at h <;> simp_all
      have c1 := h1.cell a1
      have c2 := h2.cell a2
      unfold cellEq at h
      split at h
      · cases c1; cases c2
        split at h
        · rename_i e; subst e; simp at h; simp [Instr.sameBits, h]
        · cases h
      · cases c1; cases c2; simp at h; simp [Instr.sameBits, h]
      · rename_i s s' _
        cases c1; cases c2
        have : (s' == s) = true := by rw [beq_toListBytes]; simp at h; simp [h]
        simp only [Instr.sameBits]; exact this
      · cases h
  simp [Instr.keyThatStays, hb]

theorem op_mapUpdate {base : Nat} {t : TypeId} {x y z : Operand} {m k v : AV} {σ' : St} (hs : StR w M θ σ) (hf : FrR w M θ σ π env a.tmps) (hd : okDst env o.dst = true) (ho : o.op = .mapUpdate t x y z)
    (hx : lookV env x = some m) (hy : lookV env y = some k) (hz : lookV env z = some v) (hr : mapPut P base σ t m k v = some σ') : OpS P w M θ σ π o a env σ' .und := by
  have hm := lookV_sound hf hx
  have hk := lookV_sound hf hy
  have hv := lookV_sound hf hz
  unfold mapPut at hr
  split at hr
  · rename_i kt e ht
    have hu := lowMapOk_spec ht
    split at hr
    · rename_i hkok
      split at hr
      · rename_i id
        split at hr
        · split at hr
          · rename_i es hes
            obtain ⟨g, hg, e1⟩ := hm.rep.mapS
            obtain ⟨_, g', us, clock, h1, h2, h3, hbn⟩ := hs.ob _ _ hes
            rw [hg] at h1; cases h1
            have hc := checkKey_run (P := P) (w := w) (em := false) hkok hk
            split at hr
            · rename_i i w0 hfe
              cases hr
              obtain ⟨r', h4, h5⟩ := findKey_run (P := P) (w := w) hkok hk h3.toL hfe
              obtain ⟨zv, rfl, _⟩ := h5
              obtain ⟨_, k', h6, h7⟩ := findE_lt hfe
              simp only [Nat.sub_zero] at h6
              obtain ⟨en, h8, h9, h10⟩ := h3.2 i k' w0 h6
              have hi : i < us.size := (Array.getElem?_eq_some_iff.1 h8).1
              have hil : i < es.length := by rw [← h3.1]; exact hi
              have hks := keyStays_run (P := P) (w := w) hk h9 h7
              obtain ⟨q1, q2⟩ := map_set (us' := us.modify i fun e => { e with key := a.eval y, val := a.eval z }) (cl' := clock) (es' := es.set i (k, v)) hs hes hg h2 (by
                refine ⟨by simp [h3.1], fun j k2 v2 hj => ?_⟩
                by_cases e2 : j = i
                · subst e2
                  rw [List.getElem?_set_self hil] at hj; cases hj
                  exact ⟨{ en with key := a.eval y, val := a.eval z }, by simp [Array.getElem?_modify, h8], hk, hv⟩
                · rw [List.getElem?_set_ne (Ne.symm e2)] at hj
                  obtain ⟨e3, h11, h12⟩ := h3.2 j k2 v2 hj
                  exact ⟨e3, by simp [Array.getElem?_modify, Ne.symm e2, h11], h12⟩) (hbn.modify fun _ => rfl)
              refine .goU hf hd ?_ q1 q2
              simp only [execOp, ho, Instr.mapUpdate, e1, Sem.run_bind, run_underlying hu, Result.andThen_ok, getObj_map h2, hc, h4, h8, Option.map_some, Option.getD_some, hks, setObj_map _ h2, Sem.run_pure]
            · rename_i hfe
              cases hr
              obtain ⟨r', h4, h5⟩ := findKey_run (P := P) (w := w) hkok hk h3.toL hfe
              subst h5
              obtain ⟨q1, q2⟩ := map_set (us' := us.push { key := a.eval y, val := a.eval z, born := clock }) (cl' := clock + 1) (es' := es ++ [(k, v)]) hs hes hg h2 (by
                refine ⟨by simp [h3.1], fun j k2 v2 hj => ?_⟩
                by_cases e2 : j < es.length
                · rw [List.getElem?_append_left e2] at hj
                  obtain ⟨e3, h11, h12⟩ := h3.2 j k2 v2 hj
                  exact ⟨e3, by rw [Array.getElem?_push, if_neg (by rw [h3.1]; omega)]; exact h11, h12⟩
                · rw [List.getElem?_append_right (by omega)] at hj
                  have : j - es.length = 0 := by
                    cases e4 : j - es.length with
                    | zero => rfl
                    | succ n => rw [e4] at hj; simp at hj
                  rw [this] at hj; cases hj
                  have : j = us.size := by rw [h3.1]; omega
                  exact ⟨_, by rw [Array.getElem?_push, if_pos this], hk, hv⟩) hbn.push
              refine .goU hf hd ?_ q1 q2
              simp only [execOp, ho, Instr.mapUpdate, e1, Sem.run_bind, run_underlying hu, Result.andThen_ok, getObj_map h2, hc, h4, setObj_map _ h2, Sem.run_pure]
            · cases hr
          · cases hr
        · cases hr
      · cases hr
    · cases hr
  · cases hr

end
end Go.Can
