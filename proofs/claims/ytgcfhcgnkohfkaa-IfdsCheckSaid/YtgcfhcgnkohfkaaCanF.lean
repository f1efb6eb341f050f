/- The operations, third part: variables and stores. -/
import Derived.Test.YtgcfhcgnkohfkaaCanE
set_option linter.unusedSimpArgs false
set_option linter.unusedVariables false
namespace Go.Can
open Go Go.RowKit
section
variable {P : Program} {w : World} {M : Mem} {θ : Th} {σ : St} {π : Nat → Option Nat} {env : Env} {o : Oper} {a : Act}

theorem getD_append_left {xs ys : List Value} {i : Nat} (h : i < xs.length) : (xs ++ ys).toArray.getD i undef = xs.toArray.getD i undef := by
  simp [Array.getD_eq_getD_getElem?, List.getElem?_append_left h]

theorem splice_spec {cs vs cs' : List AV} {off : Nat} (h : splice cs off vs = some cs') : off + vs.length ≤ cs.length ∧ cs' = cs.take off ++ vs ++ cs.drop (off + vs.length) ∧ cs'.length = cs.length := by
  unfold splice at h
  split at h
  · cases h
    refine ⟨by assumption, rfl, ?_⟩
    simp; omega
  · cases h

theorem getElem?_splice {α : Type} {l vs : List α} {off : Nat} (h : off + vs.length ≤ l.length) (i : Nat) :
    (l.take off ++ vs ++ l.drop (off + vs.length))[i]? = if i < off then l[i]? else if i < off + vs.length then vs[i - off]? else l[i]? := by
  have e : (l.take off).length = off := by simp; omega
  by_cases h1 : i < off
  · rw [if_pos h1, List.append_assoc, List.getElem?_append_left (by omega), List.getElem?_take_of_lt h1]
  · rw [if_neg h1, List.append_assoc, List.getElem?_append_right (by omega), e]
    by_cases h2 : i < off + vs.length
    · rw [if_pos h2, List.getElem?_append_left (by omega)]
    · rw [if_neg h2, List.getElem?_append_right (by omega), List.getElem?_drop]
      congr 1; omega

theorem splice_cells {cs vs cs' : List AV} {off : Nat} {cur us : Array Value} (h : splice cs off vs = some cs') (hc : CellsR M θ cs cur) (hu : CellsR M θ vs us) :
    CellsR M θ cs' (cur.toList.take off ++ us.toList ++ cur.toList.drop (off + us.toList.length)).toArray := by
  obtain ⟨h1, rfl, _⟩ := splice_spec h
  have hul : us.toList.length = vs.length := by simpa using hu.1
  have hcl : cur.toList.length = cs.length := by simpa using hc.1
  refine ⟨by simp [hc.1, hu.1], fun i c hi => ?_⟩
  rw [getElem?_splice h1] at hi
  have e : ((cur.toList.take off ++ us.toList ++ cur.toList.drop (off + us.toList.length)).toArray).getD i undef =
      if i < off then cur.getD i undef else if i < off + vs.length then us.getD (i - off) undef else cur.getD i undef := by
    simp only [Array.getD_eq_getD_getElem?, List.getElem?_toArray]
    rw [getElem?_splice (by omega), hul]
    split
    · simp
    · split <;> simp
  rw [e]
  split at hi
  · rename_i h2; rw [if_pos h2]; exact hc.2 i c hi
  · rename_i h2
    rw [if_neg h2]
    split at hi
    · rename_i h3; rw [if_pos h3]; exact hu.2 _ c hi
    · rename_i h3; rw [if_neg h3]; exact hc.2 i c hi

theorem CellsR.one {cs : List AV} {us : Array Value} (h : CellsR M θ cs us) : ∀ u ∈ us.toList, u.oneCell' = true := by
  intro u hu
  obtain ⟨i, hi, rfl⟩ := List.getElem_of_mem hu
  have hl : i < us.size := by simpa using hi
  have hl2 : i < cs.length := by rw [← h.1]; exact hl
  have := (h.2 i _ (List.getElem?_eq_getElem hl2)).oneCell
  simpa [Array.getD_eq_getD_getElem?, hl] using this

/-- A store of a value's cells into a block. -/
theorem storeVar_run {t e : TypeId} {g o1 : Nat} {u : Value} {vs : List AV} {cur : Array Value} (hg : w.heap[g]? = some (.cells cur e (0, 0))) (hu : CellsR M θ vs u.cells) (ht : szOf P t = some vs.length)
    (hle : o1 + vs.length ≤ cur.size) :
    (storeVar t ⟨g, o1, none⟩ u).run P w = .ok () (w.setRow g (cur.toList.take o1 ++ u.cells.toList ++ cur.toList.drop (o1 + u.cells.toList.length)).toArray) := by
  have h1 := run_storeCells_at P g o1 e u.cells.toList 0 cur w hg (by simp [hu.1]; omega) hu.one
  simp only [Nat.add_zero] at h1
  simp only [storeVar, Sem.run_bind, szOf_run ht, Result.andThen_ok, hu.1, ne_eq, not_true_eq_false, if_false, h1]

theorem mem_of_notin {w' : World} (hs : StR w M θ σ) {g : Nat} (hg : ∀ o, M g o = none) (hw : ∀ k, k ≠ g → w'.heap[k]? = w.heap[k]?) : ∀ k o v, M k o = some v → w'.heap[k]? = w.heap[k]? :=
  fun k o v e => hw k (fun h => by subst h; rw [hg o] at e; cases e)

/-- A variable is written. -/
theorem var_set {s g : Nat} {cs cs' : List AV} {cur' : Array Value} (hs : StR w M θ σ) (hf : FrR w M θ σ π env a.tmps) (hv : env[s]? = some (.var cs)) (hg : π s = some g) (hc : CellsR M θ cs' cur') :
    Ext w M θ σ π (w.setRow g cur') M θ σ π ∧ StR (w.setRow g cur') M θ σ ∧ FrR (w.setRow g cur') M θ σ π (env.set s (.var cs')) a.tmps := by
  have hk : ∀ k, k ≠ g → (w.setRow g cur').heap[k]? = w.heap[k]? := fun k h => setRow_other w g k cur' h
  have ho := hf.out s g hg
  have hlt : s < env.length := (List.getElem?_eq_some_iff.1 hv).1
  refine ⟨⟨rfl, rfl, rfl, by simp, M.le_refl, θ.le_refl, fun k _ _ h2 => hk k (fun e => h2 s (by rw [hg, e])), fun _ h => .inl h, fun s' k h => .inl ⟨s', h⟩, fun _ _ _ h => .inl h⟩, ?_, ?_⟩
  · exact hs.keep (fun k h => hk k (fun e => ho.2 (e ▸ h))) (mem_of_notin hs ho.1 hk)
  · refine ⟨by simp [hf.size], fun t sl ht => ?_, fun t k h => ?_, hf.inj, hf.out⟩
    · by_cases e : t = s
      · subst e
        rw [List.getElem?_set_self hlt] at ht; cases ht
        obtain ⟨g', cur, e1, h1, h2, h3, _⟩ := hf.slot t _ hv
        rw [hg] at h1; cases h1
        exact ⟨g, cur', e1, hg, h2, setRow_heap w g cur cur' e1 _ h3, hc⟩
      · rw [List.getElem?_set_ne (Ne.symm e)] at ht
        exact (hf.slot t sl ht).mono M.le_refl θ.le_refl (fun k h => hk k (fun e' => e (hf.inj t s g (by rw [← e', h]) hg)))
    · by_cases e : t = s
      · subst e; exact ⟨cs', List.getElem?_set_self hlt⟩
      · obtain ⟨cs1, h1⟩ := hf.dom t k h
        exact ⟨cs1, by rw [List.getElem?_set_ne (Ne.symm e)]; exact h1⟩

/-- A new variable. -/
theorem var_new {d : Tmp} {cs : List AV} {cur : Array Value} {e : TypeId} (hs : StR w M θ σ) (hf : FrR w M θ σ π env a.tmps) (hd : okDst env (some d) = true) (hc : CellsR M θ cs cur) :
    ∃ π', Ext w M θ σ π (w.alloc (.cells cur e)) M θ σ π' ∧ StR (w.alloc (.cells cur e)) M θ σ ∧
      FrR (w.alloc (.cells cur e)) M θ σ π' (putA env (some d) (.var cs)) (a.put (some d) (.pointer (some ⟨w.heap.size, 0, none⟩))).tmps := by
  have hlt : d < env.length := by
    refine Decidable.byContradiction fun hlt => ?_
    have : env[d]? = none := List.getElem?_eq_none (Nat.le_of_not_lt hlt)
    simp only [okDst, this] at hd; cases hd
  have hnv : ∀ cs, env[d]? ≠ some (.var cs) := fun cs e => by simp only [okDst, e] at hd; cases hd
  have hnd : π d = none := by
    cases h : π d with
    | none => rfl
    | some g => obtain ⟨cs, h1⟩ := hf.dom d g h; exact absurd h1 (hnv cs)
  have hk : ∀ k, k < w.heap.size → (w.alloc (.cells cur e)).heap[k]? = w.heap[k]? := fun k h => Below.heap_alloc w _ k h
  have hmlt : ∀ g o v, M g o = some v → g < w.heap.size := fun g o v e => World.block_lt_of_cell? w _ (hs.mem g o v e)
  let π' : Nat → Option Nat := fun s => if s = d then some w.heap.size else π s
  have hπ : ∀ s g, π' s = some g → (s = d ∧ g = w.heap.size) ∨ (s ≠ d ∧ π s = some g) := by
    intro s g h
    simp only [π'] at h
    split at h
    · rename_i e; cases h; exact .inl ⟨e, rfl⟩
    · rename_i e; exact .inr ⟨e, h⟩
  refine ⟨π', ⟨rfl, rfl, rfl, by simp, M.le_refl, θ.le_refl, fun k h1 _ _ => hk k h1, fun _ h => .inl h, fun s g h => ?_, fun _ _ _ h => .inl h⟩, ?_, ?_⟩
  · rcases hπ s g h with ⟨_, rfl⟩ | ⟨_, h1⟩
    · exact .inr (Nat.le_refl _)
    · exact .inl ⟨s, h1⟩
  · exact hs.keep (fun k ⟨i, h⟩ => hk k (h.lt hs)) (fun g o v e => hk g (hmlt g o v e))
  · simp only [putA, Act.put]
    refine ⟨by simp [hf.size], fun s sl h => ?_, fun s g h => ?_, fun s t g h1 h2 => ?_, fun s g h => ?_⟩
    · by_cases e1 : s = d
      · subst e1
        rw [List.getElem?_set_self hlt] at h; cases h
        have hl : s < a.tmps.size := by rw [hf.size]; exact hlt
        have he : ∀ v : Value, (a.tmps.setIfInBounds s v).getD s undef = v := fun v => by simp [Array.getD_eq_getD_getElem?, hl]
        exact ⟨w.heap.size, cur, e, by simp [π'], he _, (by show (w.heap.push _)[w.heap.size]? = _; simp), hc⟩
      · rw [List.getElem?_set_ne (Ne.symm e1)] at h
        have he : ∀ v : Value, (a.tmps.setIfInBounds d v).getD s undef = a.tmps.getD s undef := fun v => by simp [Array.getD_eq_getD_getElem?, Array.getElem?_setIfInBounds, Ne.symm e1]
        rw [he]
        have h0 := hf.slot s sl h
        cases sl with
        | val v => exact h0
        | plc t off =>
          obtain ⟨g, h1, h2⟩ := h0
          have : t ≠ d := fun e => by rw [e, hnd] at h1; cases h1
          exact ⟨g, by simp [π', this, h1], h2⟩
        | var cs1 =>
          obtain ⟨g, cur1, e2, h1, h2, h3, h4⟩ := h0
          exact ⟨g, cur1, e2, by simp [π', e1, h1], h2, (hk g (hf.lt h1)).trans h3, h4⟩
        | und => exact h0
        | top => exact h0
    · rcases hπ s g h with ⟨rfl, _⟩ | ⟨h0, h1⟩
      · exact ⟨cs, List.getElem?_set_self hlt⟩
      · obtain ⟨cs1, h2⟩ := hf.dom s g h1
        exact ⟨cs1, by rw [List.getElem?_set_ne (Ne.symm h0)]; exact h2⟩
    · rcases hπ s g h1 with ⟨rfl, rfl⟩ | ⟨h3, h4⟩ <;> rcases hπ t _ h2 with ⟨rfl, h5⟩ | ⟨h5, h6⟩
      · rfl
      · have := hf.lt h6; omega
      · subst h5; have := hf.lt h4; omega
      · exact hf.inj s t g h4 h6
    · rcases hπ s g h with ⟨_, rfl⟩ | ⟨_, h1⟩
      · refine ⟨fun o => ?_, fun ⟨i, h2⟩ => ?_⟩
        · cases e2 : M w.heap.size o with
          | none => rfl
          | some v => have := hmlt _ _ _ e2; omega
        · have := h2.lt hs; omega
      · exact hf.out s g h1

theorem op_store_plc {t : TypeId} {x y : Operand} {s off : Nat} {v : AV} {cs cs' : List AV} (hs : StR w M θ σ) (hf : FrR w M θ σ π env a.tmps) (hd : okDst env o.dst = true) (ho : o.op = .store t x y)
    (hx : look env x = .plc s off) (hy : lookV env y = some v) (ht : szOf P t = some v.cells.length) (hv : env[s]? = some (.var cs)) (hsp : splice cs off v.cells = some cs') :
    OpS P w M θ σ π o a (env.set s (.var cs')) σ .und := by
  have h0 := (look_sound hf x).1
  rw [hx] at h0
  obtain ⟨g, hg, hxv⟩ := h0
  have hr := (lookV_sound hf hy).cells
  obtain ⟨g', cur, e, h1, h2, h3, h4⟩ := hf.slot s _ hv
  rw [hg] at h1; cases h1
  obtain ⟨hle, _, _⟩ := splice_spec hsp
  have hst := storeVar_run (P := P) (M := M) (θ := θ) (t := t) (o1 := off) h3 hr ht (by rw [h4.1]; exact hle)
  obtain ⟨q1, q2, q3⟩ := var_set hs hf hv hg (splice_cells hsp h4 hr)
  have hd' : okDst (env.set s (.var cs')) o.dst = true := by
    cases e1 : o.dst with
    | none => rfl
    | some d =>
      rw [e1] at hd
      by_cases e2 : d = s
      · subst e2; simp only [okDst, hv] at hd; cases hd
      · simp only [okDst] at hd ⊢
        rw [List.getElem?_set_ne (Ne.symm e2)]; exact hd
  exact .skip (by simp [execOp, ho, hxv, Instr.storeAt, Instr.sureAddr, hst]) q1 q2 (q3.put o.dst hd' (by simp) (fun _ => rfl))

theorem op_alloc_var {t : TypeId} {d : Tmp} {z : AV} (hs : StR w M θ σ) (hf : FrR w M θ σ π env a.tmps) (hd : okDst env o.dst = true) (hdd : o.dst = some d) (ho : o.op = .alloc t) (hz : zeroOf P t = some z) :
    OpS P w M θ σ π o a env σ (.var z.cells) := by
  unfold zeroOf at hz
  cases hi : P.info? t with
  | none => rw [hi] at hz; cases hz
  | some i =>
    rw [hi] at hz
    cases hi2 : i.zero with
    | none => simp [hi2] at hz
    | some zv =>
      have hz' : ofV zv = some z := by simpa [hi2] using hz
      have hc := (ofV_sound hz' M θ).cells
      rw [hdd] at hd
      obtain ⟨π', q1, q2, q3⟩ := var_new (e := t) hs hf hd hc
      rw [← hdd] at q3
      exact .val (u := .pointer (some ⟨w.heap.size, 0, none⟩)) (by simp [execOp, ho, Instr.alloc, zeroValue, typeInfo, hi, hi2, newVar, newRow]) q1 q2 q3

theorem op_box_var {t : TypeId} {d : Tmp} {x : Operand} {z : AV} (hs : StR w M θ σ) (hf : FrR w M θ σ π env a.tmps) (hd : okDst env o.dst = true) (hdd : o.dst = some d) (ho : o.op = .box t x) (hz : lookV env x = some z) :
    OpS P w M θ σ π o a env σ (.var z.cells) := by
  have hc := (lookV_sound hf hz).cells
  rw [hdd] at hd
  obtain ⟨π', q1, q2, q3⟩ := var_new (e := t) hs hf hd hc
  rw [← hdd] at q3
  exact .val (u := .pointer (some ⟨w.heap.size, 0, none⟩)) (by simp [execOp, ho, Instr.box, newVar, newRow]) q1 q2 q3

end
end Go.Can
