/- Calls: a function's results; results that are frozen; the evaluator's calls, each with its fuel. -/
import Derived.Test.YtgcfhcgnkohfkaaCanS
set_option linter.unusedSimpArgs false
set_option linter.unusedVariables false
namespace Go.Can
open Go Go.RowKit
section
variable {P : Program} {w : World} {M M1 : Mem} {θ θ1 : Th} {σ σ1 : St} {π : Nat → Option Nat} {env : Env} {a : Act}

def resF (tmps : Array Value) : ResultVar → Sem Value
  | .tmp t => pure (tmps.getD t undef)
  | .cell a t => do loadVar t (← asAddr (tmps.getD a undef))

theorem results_eq (fn : Func) (tmps : Array Value) : results fn tmps = (do
    let vs ← fn.results.mapM (resF tmps)
    pure (if h : vs.size = 1 then vs[0] else .tuple vs)) := by
  unfold results
  congr 2

theorem res_sound (hs : StR w M θ σ) (hf : FrR w M θ σ π env a.tmps) : ∀ {rs : List ResultVar} {vs : List AV}, resOf P env σ rs = some vs →
    ∃ us : List Value, (rs.mapM (resF a.tmps)).run P w = .ok us w ∧ us.length = vs.length ∧
      ∀ (i : Nat) (v : AV), vs[i]? = some v → RepA M θ v (us.toArray.getD i undef)
  | [], vs, h => by cases h; exact ⟨[], by simp, rfl, by simp⟩
  | .tmp t :: rs, vs, h => by
    unfold resOf at h
    split at h
    · rename_i v vs' h1 h2
      cases h
      obtain ⟨us, k1, k2, k3⟩ := res_sound hs hf h2
      have hv := lookV_sound hf h1
      refine ⟨a.tmps.getD t undef :: us, by simp only [List.mapM_cons, resF, Sem.run_bind, Sem.run_pure, Result.andThen_ok, k1], by simp [k2], fun i x hx => ?_⟩
      cases i with
      | zero => simp at hx; subst hx; exact hv
      | succ i => simp at hx; simpa [Array.getD_eq_getD_getElem?] using k3 i x hx
    · cases h
  | .cell x t :: rs, vs, h => by
    unfold resOf at h
    split at h
    · rename_i v vs' h1 h2
      cases h
      obtain ⟨us, k1, k2, k3⟩ := res_sound hs hf h2
      obtain ⟨z, g, o, e1, e2, e3⟩ := load_run hs hf (look_sound hf (.tmp x)).1 h1
      have e1' : a.tmps.getD x undef = .pointer (some ⟨g, o, none⟩) := e1
      refine ⟨z :: us, by simp only [List.mapM_cons, resF, Sem.run_bind, Sem.run_pure, Result.andThen_ok, e1', asAddr, e2, k1], by simp [k2], fun i y hy => ?_⟩
      cases i with
      | zero => simp at hy; subst hy; exact e3
      | succ i => simp at hy; simpa [Array.getD_eq_getD_getElem?] using k3 i y hy
    · cases h

theorem lookV_notup {env : Env} {x : Operand} {v : AV} (h : lookV env x = some v) : ∀ vs, v ≠ .tup vs := by
  unfold lookV Slot.v at h
  intro vs e
  subst e
  split at h
  · cases h
  · rename_i hv _
    cases h
    exact hv vs rfl
  · cases h

theorem results_sound {fn : Func} {vs : List AV} (hs : StR w M θ σ) (hf : FrR w M θ σ π env a.tmps) (h : resOf P env σ fn.results.toList = some vs) :
    ∃ u, (results fn a.tmps).run P w = .ok u w ∧ Rep M θ (mkRes vs) u := by
  obtain ⟨us, h1, h2, h3⟩ := res_sound hs hf h
  have h4 : (fn.results.mapM (resF a.tmps)).run P w = .ok us.toArray w := by
    rw [Array.mapM_eq_mapM_toList, Sem.run_map, h1]; rfl
  rw [results_eq]
  refine ⟨if h : us.toArray.size = 1 then us.toArray[0] else .tuple us.toArray, ?_, ?_⟩
  · rw [Sem.run_bind]
    rw [h4]
    rfl
  · match vs, h2, h3 with
    | [], h2, h3 =>
      have : us = [] := List.eq_nil_of_length_eq_zero h2
      subst this
      exact ⟨#[], rfl, rfl, by simp⟩
    | [v], h2, h3 =>
      have hsz : us.toArray.size = 1 := by simp [h2]
      rw [dif_pos hsz]
      have := h3 0 v rfl
      have e : us.toArray.getD 0 undef = us.toArray[0] := by simp [Array.getD_eq_getD_getElem?, h2]
      rw [e] at this
      exact this.rep
    | v :: v' :: vs, h2, h3 =>
      have hsz : us.toArray.size ≠ 1 := by simp [h2]
      rw [dif_neg hsz]
      exact ⟨us.toArray, rfl, by simp [h2], h3⟩

/-! Freezing: the objects of the function's own go out of the small heap; what they hold stays as it is. -/

/-- Behind the function's end: only the objects below 'n' are left. -/
def Th.cut (θ : Th) (n : Nat) : Th := ⟨fun id gen => if id < n then θ.tr id gen else none, fun id => if id < n then θ.tc id else none⟩

open Classical in
noncomputable def memOf (w1 : World) (M1 : Mem) (θ1 : Th) (σ1 : St) (n : Nat) : Mem := fun g o =>
  if ∃ id, n ≤ id ∧ OwnAt θ1 σ1 id g then w1.cell? ⟨g, o, none⟩ else M1 g o

theorem memOf_le {w1 : World} {n : Nat} (hs : StR w1 M1 θ1 σ1) : M1.le (memOf w1 M1 θ1 σ1 n) := fun g o v h => by
  unfold memOf
  split
  · rename_i hex
    obtain ⟨id, _, ho⟩ := hex
    have := hs.out g ⟨id, ho⟩ o
    rw [this] at h; cases h
  · exact h

/-- A cell that was related before the call names no object of the call's own. -/
theorem Cell.cut {M2 : Mem} {n : Nat} (hfar : ∀ id, n ≤ id → (∀ gen, θ.tr id gen = none) ∧ θ.tc id = none) (hM : M1.le M2) {v : AV} {u1 : Value} (h1 : Cell M1 θ1 v u1) : ∀ {u0 : Value}, Cell M θ v u0 → Cell M2 (θ1.cut n) v u1 := by
  have lt_r : ∀ {id gen x}, θ.tr id gen = some x → id < n := fun {id gen x} h => Decidable.byContradiction fun hn => by
    rw [(hfar id (by omega)).1 gen] at h; cases h
  have lt_c : ∀ {id x}, θ.tc id = some x → id < n := fun {id x} h => Decidable.byContradiction fun hn => by
    rw [(hfar id (by omega)).2] at h; cases h
  induction h1 with
  | int k n => intro u0 _; exact .int k n
  | bool b => intro u0 _; exact .bool b
  | str s => intro u0 _; exact .str s
  | nilp => intro u0 _; exact .nilp
  | nilf => intro u0 _; exact .nilf
  | nili => intro u0 _; exact .nili
  | list full sz xs a cap u hc hm hf hs ha he ih =>
    intro u0 h0
    cases h0 with
    | list _ _ _ a0 cap0 u0 hc0 hm0 hf0 hs0 ha0 he0 =>
      refine .list full sz xs a cap u hc hm hf hs (fun hne => ?_) fun i x hx j c hj => ih i x hx j c hj (he0 i x hx j c hj)
      obtain ⟨g, o, e, h⟩ := ha hne
      exact ⟨g, o, e, fun i x hx j c hj => hM _ _ _ (h i x hx j c hj)⟩
  | row sz id gen off len lim a cap' cap b ht q1 hg hm hb hc ha =>
    intro u0 h0
    cases h0 with
    | row _ _ _ _ _ _ a0 cap0 cap1 b0 ht0 =>
      exact .row sz id gen off len lim a cap' cap b (by simp only [Th.cut, lt_r ht0, if_true]; exact ht) q1 hg hm hb hc ha
  | elm s sz i off g o len cap _ hi ih =>
    intro u0 h0
    cases h0 with
    | elm _ _ _ _ g0 o0 len0 cap0 hs0 hi0 => exact .elm s sz i off g o len cap (ih hs0) hi
  | ptr id off g h =>
    intro u0 h0
    cases h0 with
    | ptr _ _ g0 h00 => exact .ptr id off g (by simp only [Th.cut, lt_c h00, if_true]; exact h)
  | mapN => intro u0 _; exact .mapN
  | mapS id g h =>
    intro u0 h0
    cases h0 with
    | mapS _ g0 h00 => exact .mapS id g (by simp only [Th.cut, lt_c h00, if_true]; exact h)
  | fn f fi ca fu cu q1 q2 _ _ ih1 ih2 =>
    intro u0 h0
    cases h0 with
    | fn _ _ _ fu0 cu0 _ _ hf0 hc0 => exact .fn f fi ca fu cu q1 q2 (fun i c hi => ih1 i c hi (hf0 i c hi)) (fun i c hi => ih2 i c hi (hc0 i c hi))

theorem RepA.cut {M2 : Mem} {n : Nat} (hfar : ∀ id, n ≤ id → (∀ gen, θ.tr id gen = none) ∧ θ.tc id = none) (hM : M1.le M2) {v : AV} {u1 u0 : Value} (h1 : RepA M1 θ1 v u1) (h0 : RepA M θ v u0) : RepA M2 (θ1.cut n) v u1 := by
  by_cases hv : ∃ cs, v = .agg cs
  · obtain ⟨cs, rfl⟩ := hv
    obtain ⟨us, rfl, k1, k2⟩ := h1
    obtain ⟨us0, _, k3, k4⟩ := h0
    exact ⟨us, rfl, k1, fun i c hi => (k2 i c hi).cut hfar hM (k4 i c hi)⟩
  · exact (Cell.cut hfar hM (h1.cell fun cs e => hv ⟨cs, e⟩) (h0.cell fun cs e => hv ⟨cs, e⟩)).repA

theorem own_cut {n g : Nat} (h : Own (θ1.cut n) σ g) (hk : ∀ id, id < n → σ1[id]? = σ[id]?) : ∃ id, id < n ∧ OwnAt θ1 σ1 id g := by
  obtain ⟨id, h⟩ := h
  unfold OwnAt at h
  have key : ∀ (hlt : id < n), (match σ[id]? with | some (.row _ xs) => ∃ cap s, θ1.tr id xs.length = some (some g, cap, s) | some (.cells _) | some (.map _) => θ1.tc id = some g | _ => False) → ∃ id, id < n ∧ OwnAt θ1 σ1 id g := fun hlt hh => ⟨id, hlt, by unfold OwnAt; rw [hk id hlt]; exact hh⟩
  by_cases hlt : id < n
  · refine key hlt ?_
    simp only [Th.cut, hlt, if_true] at h
    exact h
  · exfalso
    simp only [Th.cut, hlt, if_false] at h
    split at h
    · obtain ⟨_, _, h⟩ := h; cases h
    · cases h
    · cases h
    · exact h

theorem ownAt_cut {n g id : Nat} (h : OwnAt (θ1.cut n) σ id g) (hk : ∀ id, id < n → σ1[id]? = σ[id]?) : id < n ∧ OwnAt θ1 σ1 id g := by
  unfold OwnAt at h
  by_cases hlt : id < n
  · refine ⟨hlt, ?_⟩
    unfold OwnAt
    rw [hk id hlt]
    simp only [Th.cut, hlt, if_true] at h
    exact h
  · exfalso
    simp only [Th.cut, hlt, if_false] at h
    split at h
    · obtain ⟨_, _, h⟩ := h; cases h
    · cases h
    · cases h
    · exact h

theorem cut_state {w1 : World} (h0 : StR w M θ σ) (h1 : StR w1 M1 θ1 σ1) (he : Ext0 w M θ σ w1 M1 θ1 σ1) (hk : ∀ id, id < σ.length → σ1[id]? = σ[id]?) :
    Ext0 w M θ σ w1 (memOf w1 M1 θ1 σ1 σ.length) (θ1.cut σ.length) σ ∧ StR w1 (memOf w1 M1 θ1 σ1 σ.length) (θ1.cut σ.length) σ := by
  have hM := memOf_le (n := σ.length) h1
  have hlt_r : ∀ {id gen x}, θ.tr id gen = some x → id < σ.length := fun {id gen x} h => Decidable.byContradiction fun hn => by
    rw [(h0.far id (by omega)).1 gen] at h; cases h
  have hlt_c : ∀ {id x}, θ.tc id = some x → id < σ.length := fun {id x} h => Decidable.byContradiction fun hn => by
    rw [(h0.far id (by omega)).2] at h; cases h
  refine ⟨⟨he.os, he.tape, he.output, he.size, Mem.le_trans he.m hM, ⟨fun id gen x h => ?_, fun id g h => ?_⟩, he.block, fun g hg => ?_, fun s g hs => (by cases hs), fun g o v hv => ?_⟩, ?_⟩
  · simp only [Th.cut, hlt_r h, if_true]; exact he.t.tr _ _ _ h
  · simp only [Th.cut, hlt_c h, if_true]; exact he.t.tc _ _ h
  · obtain ⟨id, _, h⟩ := own_cut hg hk
    exact he.own g ⟨id, h⟩
  · unfold memOf at hv
    split at hv
    · rename_i hex
      obtain ⟨id, _, h⟩ := hex
      rcases he.own g ⟨id, h⟩ with h2 | h2
      · exact .inr (.inr h2)
      · exact .inr (.inl h2)
    · exact he.dom g o v hv
  · refine ⟨fun g o v hv => ?_, fun id x hx => ?_, fun i j g hi hj => h1.dis i j g (ownAt_cut hi hk).2 (ownAt_cut hj hk).2, fun g hg o => ?_, fun id hid => ⟨fun gen => by simp only [Th.cut, Nat.not_lt.2 hid, if_false], by simp only [Th.cut, Nat.not_lt.2 hid, if_false]⟩⟩
    · unfold memOf at hv
      split at hv
      · exact hv
      · exact h1.mem g o v hv
    · have hlt : id < σ.length := (List.getElem?_eq_some_iff.1 hx).1
      have a0 := h0.ob id x hx
      have a1 := h1.ob id x (by rw [hk id hlt]; exact hx)
      have etr : ∀ gen, (θ1.cut σ.length).tr id gen = θ1.tr id gen := fun gen => by simp only [Th.cut, hlt, if_true]
      have etc : (θ1.cut σ.length).tc id = θ1.tc id := by simp only [Th.cut, hlt, if_true]
      cases x with
      | none => exact ⟨fun gen => by rw [etr]; exact a1.1 gen, by rw [etc]; exact a1.2⟩
      | row sz xs =>
        obtain ⟨_, _, _, _, b0, cap0, _, _, _, c0⟩ := a0
        obtain ⟨b1, b2, b3, b4, b, cap, b5, b6, b7, b8⟩ := a1
        refine ⟨by rw [etc]; exact b1, fun gen y hy => b2 gen y (by rw [← etr]; exact hy), b3, b4, b, cap, by rw [etr]; exact b5, b6, b7, ?_⟩
        cases b with
        | none => exact b8
        | some g =>
          obtain ⟨cur, e, b9, b10, b11⟩ := b8
          refine ⟨cur, e, b9, b10, fun i y hy j c hj => ?_⟩
          have h2 := b11 i y hy j c hj
          cases b0 with
          | none => obtain ⟨rfl, _⟩ := c0; simp at hy
          | some g0 =>
            obtain ⟨cur0, e0, _, _, c1⟩ := c0
            exact h2.cut h0.far hM (c1 i y hy j c hj)
      | cells cs =>
        obtain ⟨_, g0, cur0, e0, _, _, c1⟩ := a0
        obtain ⟨b1, g, cur, e, b2, b3, b4⟩ := a1
        exact ⟨fun gen => by rw [etr]; exact b1 gen, g, cur, e, by rw [etc]; exact b2, b3, b4.1, fun i c hi => (b4.2 i c hi).cut h0.far hM (c1.2 i c hi)⟩
      | map es =>
        obtain ⟨_, g0, us0, cl0, _, _, c1, _⟩ := a0
        obtain ⟨b1, g, us, cl, b2, b3, b4, bn⟩ := a1
        refine ⟨fun gen => by rw [etr]; exact b1 gen, g, us, cl, by rw [etc]; exact b2, b3, ⟨b4.1, fun i k v hi => ?_⟩, bn⟩
        obtain ⟨e, k1, k2, k3⟩ := b4.2 i k v hi
        obtain ⟨e', k1', k2', k3'⟩ := c1.2 i k v hi
        exact ⟨e, k1, k2.cut h0.far hM k2', k3.cut h0.far hM k3'⟩
    · obtain ⟨id, hid, ho⟩ := own_cut hg hk
      unfold memOf
      rw [if_neg]
      · exact h1.out g ⟨id, ho⟩ o
      · rintro ⟨id', hid', ho'⟩
        have := h1.dis _ _ _ ho ho'
        omega

/-- One element's cells, as a value. -/
theorem cells_value {x : AV} (f : Nat → Value) (h : ∀ j c, x.cells[j]? = some c → Cell M θ c (f j)) : ∃ u, RepA M θ x u ∧ u.cells.size = x.cells.length ∧ ∀ j, j < x.cells.length → u.cells.getD j undef = f j := by
  by_cases hx : ∃ cs, x = .agg cs
  · obtain ⟨cs, rfl⟩ := hx
    have e : (AV.agg cs).cells = cs := rfl
    rw [e] at *
    have hg : ∀ j, j < cs.length → ((List.range cs.length).map f).toArray.getD j undef = f j := fun j hj => by simp [Array.getD_eq_getD_getElem?, hj]
    refine ⟨.agg ((List.range cs.length).map f).toArray, ⟨_, rfl, by simp, fun i c hi => ?_⟩, by simp [Value.cells], fun j hj => hg j hj⟩
    have hlt := (List.getElem?_eq_some_iff.1 hi).1
    rw [hg i hlt]
    exact h i c hi
  · have e : x.cells = [x] := by cases x <;> first | rfl | exact absurd ⟨_, rfl⟩ hx
    have h0 := h 0 x (by rw [e]; rfl)
    have h1 := h0.repA.cells
    refine ⟨f 0, h0.repA, h1.1, fun j hj => ?_⟩
    rw [e] at hj
    simp at hj
    subst hj
    have : (f 0).cells = #[f 0] := by
      generalize f 0 = z at h0
      cases h0 <;> rfl
    rw [this]; rfl

theorem freezeL_spec {fz : AV → Option AV} : ∀ {xs ys : List AV}, freezeL fz xs = some ys → ys.length = xs.length ∧ ∀ (i : Nat) (y : AV), ys[i]? = some y → ∃ x, xs[i]? = some x ∧ fz x = some y
  | [], ys, h => by cases h; exact ⟨rfl, fun i y h => by simp at h⟩
  | x :: xs, ys, h => by
    unfold freezeL at h
    split at h
    · rename_i b bs h1 h2
      cases h
      obtain ⟨k1, k2⟩ := freezeL_spec h2
      refine ⟨by simp [k1], fun i y hy => ?_⟩
      cases i with
      | zero => simp at hy; subst hy; exact ⟨x, rfl, h1⟩
      | succ i => exact k2 i y (by simpa using hy)
    · cases h

theorem list_freeze {M2 : Mem} {θ2 : Th} {fz : AV → Option AV} (ih : ∀ v v' u, fz v = some v' → RepA M1 θ1 v u → RepA M2 θ2 v' u) {full : Bool} {sz : Nat} {xs xs' : List AV} {ad : Option Addr} {cap : Nat} {u : Nat → Nat → Value}
    (hz : freezeL fz xs = some xs') (hc : xs.length ≤ cap) (hm : cap ≤ maxLen) (hf : full = true → cap = xs.length) (hs : ∀ x ∈ xs, x.cells.length = sz)
    (ha : xs ≠ [] → ∃ g o, ad = some ⟨g, o, none⟩ ∧ ∀ i x, xs[i]? = some x → ∀ j c, x.cells[j]? = some c → M2 g (o + (i * sz + j)) = some (u i j))
    (he : ∀ i x, xs[i]? = some x → ∀ j c, x.cells[j]? = some c → Cell M1 θ1 c (u i j)) : Cell M2 θ2 (.list full sz xs') (.slice ad xs.length cap) := by
  obtain ⟨k1, k2⟩ := freezeL_spec hz
  have key : ∀ i y, xs'[i]? = some y → ∃ x, xs[i]? = some x ∧ y.cells.length = sz ∧ ∀ j c, y.cells[j]? = some c → Cell M2 θ2 c (u i j) := fun i y hy => by
    obtain ⟨x, hx, hxy⟩ := k2 i y hy
    obtain ⟨uv, h1, h2, h3⟩ := cells_value (u i) (he i x hx)
    have h4 := (ih _ _ _ hxy h1).cells
    have hxs := hs x (List.mem_of_getElem? hx)
    have h5 : y.cells.length = sz := by rw [← h4.1, h2, hxs]
    refine ⟨x, hx, h5, fun j c hj => ?_⟩
    have := h4.2 j c hj
    rw [h3 j (by rw [hxs, ← h5]; exact (List.getElem?_eq_some_iff.1 hj).1)] at this
    exact this
  rw [← k1]
  refine .list full sz xs' ad cap u (by omega) hm (fun h => by rw [k1]; exact hf h) (fun y hy => ?_) (fun hne => ?_) fun i y hy j c hj => ?_
  · obtain ⟨i, hi, rfl⟩ := List.getElem_of_mem hy
    obtain ⟨_, _, h, _⟩ := key i _ (List.getElem?_eq_getElem hi)
    exact h
  · obtain ⟨g, o, e, h⟩ := ha (fun e => hne (List.eq_nil_of_length_eq_zero (by rw [k1, e]; rfl)))
    refine ⟨g, o, e, fun i y hy j c hj => ?_⟩
    obtain ⟨x, hx, h5, _⟩ := key i y hy
    have hxs := hs x (List.mem_of_getElem? hx)
    have hj' : j < x.cells.length := by rw [hxs, ← h5]; exact (List.getElem?_eq_some_iff.1 hj).1
    exact h i x hx j _ (List.getElem?_eq_getElem hj')
  · obtain ⟨_, _, _, h⟩ := key i y hy
    exact h j c hj

theorem cells_freeze {M2 : Mem} {θ2 : Th} {fz : AV → Option AV} (ih : ∀ v v' u, fz v = some v' → RepA M1 θ1 v u → RepA M2 θ2 v' u) {xs xs' : List AV} {us : Array Value} (hz : freezeL fz xs = some xs')
    (hc : CellsR M1 θ1 xs us) : us.size = xs'.length ∧ ∀ i c, xs'[i]? = some c → RepA M2 θ2 c (us.getD i undef) := by
  obtain ⟨k1, k2⟩ := freezeL_spec hz
  refine ⟨by rw [hc.1, k1], fun i c hi => ?_⟩
  obtain ⟨x, hx, hxy⟩ := k2 i c hi
  exact ih _ _ _ hxy (hc.2 i x hx).repA

theorem freeze_noagg {n : Nat} : ∀ {k : Nat} {v v' : AV}, freeze n σ1 k v = some v' → (∀ cs, v ≠ .agg cs) → ∀ cs, v' ≠ .agg cs := by
  intro k v v' h hv cs e
  subst e
  cases k with
  | zero => cases h
  | succ k =>
    unfold freeze at h
    split at h
    case h_9 cs' => exact hv _ rfl
    all_goals first
      | (cases h; done)
      | (simp only [Option.map_eq_some_iff] at h; obtain ⟨_, _, h⟩ := h; cases h; done)
      | (cases h; exact hv _ rfl)
      | ((repeat' split at h) <;> first | (cases h; done) | (simp only [Option.map_eq_some_iff] at h; obtain ⟨_, _, h⟩ := h; cases h; done))

theorem freeze_sound {w1 : World} {n : Nat} (h1 : StR w1 M1 θ1 σ1) : ∀ {k : Nat} {v v' : AV} {u : Value}, freeze n σ1 k v = some v' → RepA M1 θ1 v u → RepA (memOf w1 M1 θ1 σ1 n) (θ1.cut n) v' u := by
  have hM := memOf_le (n := n) h1
  intro k
  induction k with
  | zero => intro v v' u h; cases h
  | succ k ih =>
    intro v v' u h hr
    have ih' : ∀ v v' u, freeze n σ1 k v = some v' → RepA M1 θ1 v u → RepA (memOf w1 M1 θ1 σ1 n) (θ1.cut n) v' u := fun v v' u => ih
    unfold freeze at h
    cases v with
    | int k q => cases h; cases hr; exact Cell.int _ _
    | bool b => cases h; cases hr; exact Cell.bool _
    | str s => cases h; cases hr; exact Cell.str _
    | nilp => cases h; cases hr; exact Cell.nilp
    | nilf => cases h; cases hr; exact Cell.nilf
    | nili => cases h; cases hr; exact Cell.nili
    | agg cs =>
      simp only [Option.map_eq_some_iff] at h
      obtain ⟨cs', h2, rfl⟩ := h
      obtain ⟨us, rfl, hc⟩ := hr
      obtain ⟨k1, k2⟩ := cells_freeze ih' h2 hc
      refine ⟨us, rfl, k1, fun i c hi => (k2 i c hi).cell ?_⟩
      obtain ⟨_, k4⟩ := freezeL_spec h2
      obtain ⟨x, hx, hxy⟩ := k4 i c hi
      exact freeze_noagg hxy fun cs e => by subst e; exact (hc.2 i _ hx).not_agg
    | tup vs => exact (Cell.not_tup hr).elim
    | list full sz xs =>
      simp only [Option.map_eq_some_iff] at h
      obtain ⟨xs', h2, rfl⟩ := h
      have hr' : Cell M1 θ1 (.list full sz xs) u := hr
      cases hr' with
      | list _ _ _ a cap u hc hm hf hs ha he =>
        refine list_freeze ih' h2 hc hm hf hs (fun hne => ?_) he
        obtain ⟨g, o, e, h⟩ := ha hne
        exact ⟨g, o, e, fun i x hx j c hj => hM _ _ _ (h i x hx j c hj)⟩
    | row sz id gen off len lim =>
      have hr' : Cell M1 θ1 (.row sz id gen off len lim) u := hr
      cases hr' with
      | row _ _ _ _ _ _ ad cap' cap b ht q1 hg hm hb hc ha =>
        simp only at h
        split at h
        · rename_i hlt
          cases h
          exact Cell.row sz id gen off len lim ad cap' cap b (by simp only [Th.cut, hlt, if_true]; exact ht) q1 hg hm hb hc ha
        · rename_i hge
          split at h
          · rename_i xs hxs
            simp only [Option.map_eq_some_iff] at h
            obtain ⟨xs', h2, rfl⟩ := h
            simp only [elems] at hxs
            split at hxs
            · rename_i s2 ys hob
              split at hxs
              · rename_i hcond
                cases hxs
                simp only [Bool.and_eq_true, beq_iff_eq] at hcond
                obtain ⟨_, hgen⟩ := hcond
                obtain ⟨_, _, d3, d4, b', cap1, d5, d6, d7, d8⟩ := h1.ob _ _ hob
                rw [← hgen, ht] at d5
                simp only [Option.some.injEq, Prod.mk.injEq] at d5
                obtain ⟨rfl, rfl, rfl⟩ := d5
                have hlen : ((ys.drop off).take len).length = len := by simp; omega
                have hcl : len ≤ cap' := by rw [hc]; split <;> omega
                have hcm : cap' ≤ maxLen := by rw [hc]; split <;> omega
                have helem : ∀ i x, ((ys.drop off).take len)[i]? = some x → i < len ∧ ys[off + i]? = some x := fun i x hx => by
                  have hi : i < len := by rw [← hlen]; exact (List.getElem?_eq_some_iff.1 hx).1
                  rw [List.getElem?_take_of_lt hi, List.getElem?_drop] at hx
                  exact ⟨hi, hx⟩
                cases b with
                | none =>
                  obtain ⟨rfl, _⟩ := d8
                  simp at h2 hlen
                  subst hlen
                  simp [freezeL] at h2
                  subst h2
                  exact Cell.list false _ [] ad cap' (fun _ _ => undef) (by simp) hcm (by simp) (by simp) (by simp) (by simp)
                | some g =>
                  obtain ⟨cur, e, e1, e2, e3⟩ := d8
                  have := list_freeze (M2 := memOf w1 M1 θ1 σ1 n) (θ2 := θ1.cut n) (full := false) (ad := ad) (cap := cap') (u := fun i j => cur.getD ((off + i) * sz + j) undef) ih' h2 (by rw [hlen]; exact hcl) hcm (by simp)
                    (fun x hx => d4 x (List.mem_of_mem_drop (List.mem_of_mem_take hx))) (fun hne => ?_) (fun i x hx j c hj => ?_)
                  · rw [hlen] at this; exact this
                  · have hpos : 0 < len := by
                      rcases Nat.eq_zero_or_pos len with h0 | h0
                      · exact absurd (List.eq_nil_of_length_eq_zero (by rw [hlen]; exact h0)) hne
                      · exact h0
                    rcases ha with ha | ⟨g', hb', ha⟩
                    · omega
                    · cases hb'
                      refine ⟨g, off * sz, ha, fun i x hx j c hj => ?_⟩
                      obtain ⟨hi, hy⟩ := helem i x hx
                      have hj' : j < sz := by rw [← d4 x (List.mem_of_getElem? hy)]; exact (List.getElem?_eq_some_iff.1 hj).1
                      have hyl : off + i < ys.length := (List.getElem?_eq_some_iff.1 hy).1
                      have hidx : (off + i) * sz + j < cur.size := by
                        rw [e2]
                        have q2 : (off + i + 1) * sz ≤ cap * sz := Nat.mul_le_mul_right _ (by omega)
                        rw [Nat.add_mul (off + i) 1, Nat.one_mul] at q2
                        omega
                      have hex : ∃ id', n ≤ id' ∧ OwnAt θ1 σ1 id' g := ⟨id, by omega, by unfold OwnAt; rw [hob]; exact ⟨cap, sz, by rw [← hgen]; exact ht⟩⟩
                      unfold memOf
                      rw [if_pos hex]
                      have e4 : off * sz + (i * sz + j) = (off + i) * sz + j := by rw [Nat.add_mul]; omega
                      rw [e4]
                      simp only [World.cell?, e1]
                      simp [Array.getD_eq_getD_getElem?, hidx]
                  · obtain ⟨hi, hy⟩ := helem i x hx
                    exact e3 (off + i) x hy j c hj
              · cases hxs
            · cases hxs
          · cases h
    | elm s sz i off => cases h
    | ptr id off =>
      simp only at h
      split at h
      · rename_i hlt
        cases h
        have hr' : Cell M1 θ1 (.ptr id off) u := hr
        cases hr' with
        | ptr _ _ g hg => exact Cell.ptr id off g (by simp only [Th.cut, hlt, if_true]; exact hg)
      · cases h
    | map r =>
      cases r with
      | none => cases h; cases hr; exact Cell.mapN
      | some id =>
        simp only at h
        split at h
        · rename_i hlt
          cases h
          have hr' : Cell M1 θ1 (.map (some id)) u := hr
          cases hr' with
          | mapS _ g hg => exact Cell.mapS id g (by simp only [Th.cut, hlt, if_true]; exact hg)
        · cases h
    | fn f fi ca =>
      cases fi with
      | cons _ _ => cases h
      | nil =>
        cases ca with
        | cons _ _ => cases h
        | nil =>
          cases h
          have hr' : Cell M1 θ1 (.fn f [] []) u := hr
          cases hr' with
          | fn _ _ _ fu cu q1 q2 q3 q4 => exact Cell.fn f [] [] fu cu q1 q2 (by simp) (by simp)

theorem freeze_rep {w1 : World} {n : Nat} (h1 : StR w1 M1 θ1 σ1) {k : Nat} {v v' : AV} {u : Value} (h : freeze n σ1 k v = some v') (hr : Rep M1 θ1 v u) : Rep (memOf w1 M1 θ1 σ1 n) (θ1.cut n) v' u := by
  cases k with
  | zero => cases h
  | succ k =>
    by_cases hv : ∃ vs, v = .tup vs
    · obtain ⟨vs, rfl⟩ := hv
      unfold freeze at h
      simp only [Option.map_eq_some_iff] at h
      obtain ⟨vs', h2, rfl⟩ := h
      obtain ⟨us, rfl, k1, k2⟩ := hr
      obtain ⟨k3, k4⟩ := freezeL_spec h2
      refine ⟨us, rfl, by rw [k1, k3], fun i c hi => ?_⟩
      obtain ⟨x, hx, hxy⟩ := k4 i c hi
      exact freeze_sound h1 hxy (k2 i x hx)
    · exact (freeze_sound h1 h (hr.repA fun vs e => hv ⟨vs, e⟩)).rep

end
end Go.Can
