/- The arguments of a law: what a reading of plain data says in the evaluator's words; the row's form out of the evaluator's word. Laws by which 'simp' carries out a function's body whose tests are not known: a tree of 'if'. -/
import Derived.Test.YtjmljgajhkbciaaGreatCanV
import Derived.ProofKit
set_option linter.unusedSimpArgs false
set_option linter.unusedVariables false
namespace Go.Can
open Go Go.RowKit Go.ChangeShapes Go.WideShapes

def memW (w : World) : Mem := fun g o => w.cell? ⟨g, o, none⟩
def th0 : Th := ⟨fun _ _ => none, fun _ => none⟩

theorem own0 {θ : Th} {g : Nat} : ¬ Own θ [] g := by
  rintro ⟨id, h⟩
  unfold OwnAt at h
  simp at h

theorem start_st (w : World) : StR w (memW w) th0 [] :=
  ⟨fun _ _ _ h => h, fun id x h => by simp at h, fun i j g h => (own0 ⟨i, h⟩).elim, fun g h => (own0 h).elim, fun _ _ => ⟨fun _ => rfl, rfl⟩⟩

def mkAV (agg : Bool) (cs : List AV) : AV := if agg then .agg cs else match cs with
  | [c] => c
  | _ => .nilp

def isAggT (P : Program) (t : TypeId) : Bool := match P.underlying t with
  | some (.struct _) | some (.array _ _) => true
  | _ => false

def TyFs (ty : TypeId → List AV → Prop) : List Field → List AV → Prop
  | [], cs => cs = []
  | f :: fs, cs => ∃ p q, cs = p ++ q ∧ ty f.type p ∧ TyFs ty fs q

/-- Plain data of this type, cell by cell. -/
def Ty (P : Program) : Nat → TypeId → List AV → Prop
  | 0, _, _ => False
  | n + 1, t, cs => match P.underlying t with
    | some .bool => ∃ b, cs = [.bool b]
    | some (.int k) => ∃ q, cs = [.int k q] ∧ (Lit.int k q).wf = true
    | some .string => ∃ s : ByteArray, cs = [.str s] ∧ s.size ≤ maxLen
    | some (.slice e) => ∃ xs : List (List AV), cs = [.list false (P.cellsOf e) (xs.map (mkAV (isAggT P e)))] ∧ xs.length ≤ maxLen ∧ ∀ x ∈ xs, Ty P n e x
    | some (.struct fs) => TyFs (Ty P n) fs.toList cs
    | _ => False

def tiles (P : Program) : List Field → Nat → Nat → Bool
  | [], o, n => o == n
  | f :: fs, o, n => f.offset == o && tiles P fs (o + P.cellsOf f.type) n

/-- Types of plain data: integers, bools, strings, slices, structs. -/
def niceT (P : Program) : Nat → TypeId → Bool
  | 0, _ => false
  | n + 1, t => match P.underlying t with
    | some .bool | some (.int _) | some .string => P.cellsOf t == 1
    | some (.slice e) => P.cellsOf t == 1 && decide (0 < P.cellsOf e) && niceT P n e
    | some (.struct fs) => tiles P fs.toList 0 (P.cellsOf t) && fs.toList.all fun f => niceT P n f.type
    | _ => false

section
variable {H : Type} {enc : TypeId × Value → H} {P : Program} {w : World}

/-- What is lifted: the cells stand for these values, one by one. -/
def LiftR (w : World) (as : List AV) (cs : List Value) : Prop := as.length = cs.length ∧ ∀ i c, as[i]? = some c → Cell (memW w) th0 c (cs.getD i undef)

theorem LiftR.one {c : AV} {v : Value} (h : Cell (memW w) th0 c v) : LiftR w [c] [v] :=
  ⟨rfl, fun i d hd => by
    cases i with
    | zero => simp at hd; subst hd; exact h
    | succ i => simp at hd⟩

theorem LiftR.append {as bs : List AV} {cs ds : List Value} (h : LiftR w as cs) (k : LiftR w bs ds) : LiftR w (as ++ bs) (cs ++ ds) := by
  refine ⟨by simp [h.1, k.1], fun i c hc => ?_⟩
  by_cases hi : i < as.length
  · rw [List.getElem?_append_left hi] at hc
    have := h.2 i c hc
    have e : (cs ++ ds).getD i undef = cs.getD i undef := by
      simp only [List.getD_eq_getElem?_getD]
      rw [List.getElem?_append_left (by rw [← h.1]; exact hi)]
    rw [e]; exact this
  · rw [List.getElem?_append_right (by omega)] at hc
    have := k.2 _ c hc
    have e : (cs ++ ds).getD i undef = ds.getD (i - as.length) undef := by
      simp only [List.getD_eq_getElem?_getD]
      rw [List.getElem?_append_right (by rw [← h.1]; omega), h.1]
    rw [e]; exact this

theorem mk_cells {as : List AV} {cs : List Value} {n : Nat} {t : TypeId} (h : LiftR w as cs) (ht : Ty P n t as) : (mkAV (isAggT P t) as).cells = as := by
  unfold mkAV
  split
  · rfl
  · rename_i hag
    have one : ∀ c, as = [c] → (match as with | [c] => c | _ => AV.nilp).cells = as := by
      intro c e
      subst e
      have := h.2 0 c rfl
      generalize cs.getD 0 undef = v at this
      cases this <;> rfl
    cases n with
    | zero => exact ht.elim
    | succ n =>
      unfold Ty at ht
      split at ht
      · obtain ⟨b, e⟩ := ht; exact one _ e
      · obtain ⟨b, e, _⟩ := ht; exact one _ e
      · obtain ⟨b, e, _⟩ := ht; exact one _ e
      · obtain ⟨b, e, _⟩ := ht; exact one _ e
      · rename_i hu; simp [isAggT, hu] at hag
      · exact ht.elim

theorem lift_fields {n fuel : Nat} {cs : List Value} {total : Nat} (hl : cs.length = total)
    (ih : ∀ t cs x, niceT P n t = true → DataW.trod enc P w 0 (fun _ => true) true fuel t cs = some x → cs.length = P.cellsOf t ∧ ∃ as, LiftR w as cs ∧ Ty P n t as) :
    ∀ (fs : List Field) (o : Nat), tiles P fs o total = true → (∀ f ∈ fs, niceT P n f.type = true) → (∀ f ∈ fs, ∃ x, DataW.trod enc P w 0 (fun _ => true) true fuel f.type ((cs.drop f.offset).take (P.cellsOf f.type)) = some x) →
      ∃ as, LiftR w as (cs.drop o) ∧ TyFs (Ty P n) fs as
  | [], o, h, _, _ => by
    simp only [tiles, beq_iff_eq] at h
    refine ⟨[], ⟨by simp [hl, h], fun i c hc => by simp at hc⟩, rfl⟩
  | f :: fs, o, h, h1, h2 => by
    simp only [tiles, Bool.and_eq_true, beq_iff_eq] at h
    obtain ⟨x, hx⟩ := h2 f (by simp)
    obtain ⟨a1, as, a2, a3⟩ := ih _ _ _ (h1 f (by simp)) hx
    obtain ⟨bs, b1, b2⟩ := lift_fields hl ih fs _ h.2 (fun g hg => h1 g (by simp [hg])) (fun g hg => h2 g (by simp [hg]))
    refine ⟨as ++ bs, ?_, as, bs, rfl, a3, b2⟩
    have := a2.append b1
    rw [h.1, ← List.drop_drop, List.take_append_drop] at this
    exact this

theorem cell_spot {w : World} {a : Addr} {v : Value} (h : w.cell? a = some v) : a = ⟨a.block, a.off, none⟩ := by
  obtain ⟨b, o, s⟩ := a
  cases s with
  | none => rfl
  | some s =>
    unfold World.cell? at h
    split at h
    · simp at h
    · cases h

set_option maxHeartbeats 1000000 in
theorem lift_cells : ∀ (n fuel : Nat) (t : TypeId) (cs : List Value) (x : DataW H × List MemPlace), niceT P n t = true → DataW.trod enc P w 0 (fun _ => true) true fuel t cs = some x →
    cs.length = P.cellsOf t ∧ ∃ as, LiftR w as cs ∧ Ty P n t as
  | 0, _, _, _, _, h, _ => by cases h
  | n + 1, fuel, t, cs, x, h, hx => by
    unfold niceT at h
    split at h
    · rename_i hu
      obtain ⟨b, rfl, _⟩ := DataW.trod_bool hu hx
      exact ⟨(by simpa using (beq_iff_eq.1 h).symm), [.bool b], .one (.bool b), by unfold Ty; rw [hu]; exact ⟨b, rfl⟩⟩
    · rename_i k hu
      obtain ⟨q, rfl, _, hw⟩ := DataW.trod_int hu hx
      exact ⟨(by simpa using (beq_iff_eq.1 h).symm), [.int k q], .one (.int k q), by unfold Ty; rw [hu]; exact ⟨q, rfl, hw⟩⟩
    · rename_i hu
      obtain ⟨s, rfl, _, hw⟩ := DataW.trod_string hu hx
      exact ⟨(by simpa using (beq_iff_eq.1 h).symm), [.str s], .one (.str s), by unfold Ty; rw [hu]; exact ⟨s, rfl, hw⟩⟩
    · rename_i e hu
      simp only [Bool.and_eq_true, beq_iff_eq, decide_eq_true_eq] at h
      obtain ⟨⟨h1, h2⟩, h3⟩ := h
      rcases DataW.trod_slice hu hx with ⟨rfl, _⟩ | ⟨a, len, cap, elems, rest, m, rfl, rfl, _, hb, hl, hm, hlen, hel, _, _⟩
      · refine ⟨by simp [h1], [.list false (P.cellsOf e) []], .one ?_, by unfold Ty; rw [hu]; exact ⟨[], rfl, Nat.zero_le _, fun x hx => by simp at hx⟩⟩
        exact .list false _ [] none 0 (fun _ _ => undef) (by simp) (Nat.zero_le _) (fun h => by cases h) (fun x hx => by simp at hx) (fun h => absurd rfl h) (fun i x hx => by simp at hx)
      · have each : ∀ i, ∃ as, i < len → ∃ cs', w.cells? 0 (a.add (i * P.cellsOf e)) (P.cellsOf e) = some cs' ∧ cs'.length = P.cellsOf e ∧ LiftR w as cs' ∧ Ty P n e as := by
          intro i
          by_cases hi : i < len
          · have h4 := hel i hi
            rw [List.getElem?_eq_getElem (by omega), Option.bind_eq_some_iff] at h4
            obtain ⟨cs', h5, h6⟩ := h4
            obtain ⟨h7, as, h8, h9⟩ := lift_cells n m e cs' _ h3 h6
            exact ⟨as, fun _ => ⟨cs', h5, h7, h8, h9⟩⟩
          · exact ⟨[], fun h => absurd h hi⟩
        obtain ⟨f, hf⟩ := Classical.axiomOfChoice each
        have hxs : ∀ i y, ((List.range len).map f)[i]? = some y → i < len ∧ y = f i := by
          intro i y hy
          rw [List.getElem?_map] at hy
          cases hr : (List.range len)[i]? with
          | none => rw [hr] at hy; cases hy
          | some j =>
            rw [hr] at hy
            obtain ⟨h4, h5⟩ := List.getElem?_eq_some_iff.1 hr
            simp at h4 h5
            subst h5
            simp at hy
            exact ⟨h4, hy.symm⟩
        have hmem : ∀ y ∈ (List.range len).map f, ∃ i, i < len ∧ y = f i := by
          intro y hy
          obtain ⟨i, hi⟩ := List.getElem?_of_mem hy
          exact ⟨i, hxs i y hi⟩
        have hty : ∀ y ∈ (List.range len).map f, Ty P n e y := by
          intro y hy
          obtain ⟨i, hi, rfl⟩ := hmem y hy
          obtain ⟨_, _, _, _, h9⟩ := hf i hi
          exact h9
        refine ⟨by simp [h1], [.list false (P.cellsOf e) (((List.range len).map f).map (mkAV (isAggT P e)))], .one ?_, by unfold Ty; rw [hu]; exact ⟨_, rfl, by simp; omega, hty⟩⟩
        have hcell : ∀ i x, (((List.range len).map f).map (mkAV (isAggT P e)))[i]? = some x → i < len ∧ x.cells = f i ∧ x.cells.length = P.cellsOf e := by
          intro i x hx
          rw [List.getElem?_map] at hx
          cases hr : ((List.range len).map f)[i]? with
          | none => rw [hr] at hx; cases hx
          | some y =>
            rw [hr] at hx
            obtain ⟨h4, rfl⟩ := hxs i y hr
            simp at hx
            obtain ⟨cs', h5, h7, h8, h9⟩ := hf i h4
            have := mk_cells h8 h9
            subst hx
            exact ⟨h4, this, by rw [this, h8.1, h7]⟩
        have key := Cell.list (M := memW w) (θ := th0) false (P.cellsOf e) (((List.range len).map f).map (mkAV (isAggT P e))) (some a) cap (fun i j => (w.cell? ⟨a.block, a.off + (i * P.cellsOf e + j), none⟩).getD undef)
          (by simp; exact hl) hm (fun h => by cases h) (fun x hx => by
            obtain ⟨i, hi⟩ := List.getElem?_of_mem hx
            exact (hcell i x hi).2.2) ?_ ?_
        · simpa using key
        · intro hne
          have hpos : 0 < len := by
            rcases Nat.eq_zero_or_pos len with h0 | h0
            · subst h0; simp at hne
            · exact h0
          have hspot : a = ⟨a.block, a.off, none⟩ := by
            obtain ⟨cs', h5, h7, h8, h9⟩ := hf 0 hpos
            obtain ⟨_, g1, g2⟩ := World.cells?_some h5
            have := g2 0 h2
            have e0 : ∀ b : Addr, b.add 0 = b := fun b => rfl
            rw [Nat.zero_mul, e0, e0, List.getElem?_eq_getElem (by omega)] at this
            exact cell_spot this
          refine ⟨a.block, a.off, congrArg some hspot, fun i x hx j c hc => ?_⟩
          obtain ⟨h4, h6, _⟩ := hcell i x hx
          obtain ⟨cs', h5, h7, h8, h9⟩ := hf i h4
          obtain ⟨_, g1, g2⟩ := World.cells?_some h5
          have hj : j < P.cellsOf e := by
            have := (List.getElem?_eq_some_iff.1 hc).1
            rw [h6, h8.1, h7] at this; exact this
          have := g2 j hj
          rw [hspot, addr_add, addr_add, List.getElem?_eq_getElem (by omega)] at this
          show w.cell? _ = _
          rw [← Nat.add_assoc, this]; rfl
        · intro i x hx j c hc
          obtain ⟨h4, h6, _⟩ := hcell i x hx
          obtain ⟨cs', h5, h7, h8, h9⟩ := hf i h4
          obtain ⟨_, g1, g2⟩ := World.cells?_some h5
          have hj : j < P.cellsOf e := by
            have := (List.getElem?_eq_some_iff.1 hc).1
            rw [h6, h8.1, h7] at this; exact this
          have hspot : a = ⟨a.block, a.off, none⟩ := by
            obtain ⟨cs', h5, h7, h8, h9⟩ := hf 0 (by omega)
            obtain ⟨_, g1, g2⟩ := World.cells?_some h5
            have := g2 0 h2
            have e0 : ∀ b : Addr, b.add 0 = b := fun b => rfl
            rw [Nat.zero_mul, e0, e0, List.getElem?_eq_getElem (by omega)] at this
            exact cell_spot this
          have hg := g2 j hj
          rw [hspot, addr_add, addr_add] at hg
          rw [h6] at hc
          have := h8.2 j c hc
          rw [List.getD_eq_getElem?_getD, ← hg, Nat.add_assoc] at this
          exact this
    · rename_i fs hu
      simp only [Bool.and_eq_true, List.all_eq_true] at h
      obtain ⟨xs, m, rfl, _, hlen, hxl, hel⟩ := DataW.trod_struct hu hx
      obtain ⟨as, a1, a2⟩ := lift_fields hlen (fun t cs x => lift_cells n m t cs x) fs.toList 0 h.1 h.2 (fun f hf => by
        obtain ⟨i, hi⟩ := List.getElem?_of_mem hf
        have hi' : fs[i]? = some f := by simpa using hi
        have hlt : i < fs.size := by have := (List.getElem?_eq_some_iff.1 hi).1; simpa using this
        refine ⟨xs[i], ?_⟩
        rw [hel i f hi']
        exact List.getElem?_eq_getElem _)
      rw [List.drop_zero] at a1
      exact ⟨hlen, as, a1, by unfold Ty; rw [hu]; exact a2⟩
    · cases h

/-- A struct's cells, by its fields' types. -/
def TyTs (ty : TypeId → List AV → Prop) : List TypeId → List AV → Prop
  | [], cs => cs = []
  | t :: ts, cs => ∃ p q, cs = p ++ q ∧ ty t p ∧ TyTs ty ts q

theorem tyTs_of {ty : TypeId → List AV → Prop} : ∀ {fs : List Field} {cs : List AV}, TyFs ty fs cs → TyTs ty (fs.map (·.type)) cs
  | [], _, h => h
  | _ :: _, _, ⟨p, q, h1, h2, h3⟩ => ⟨p, q, h1, h2, tyTs_of h3⟩

theorem ty_struct {P : Program} {n : Nat} {t : TypeId} {ts : List TypeId} {cs : List AV} (ht : (match P.underlying t with | some (.struct fs) => some (fs.toList.map (·.type)) | _ => none) = some ts) (h : Ty P (n + 1) t cs) : TyTs (Ty P n) ts cs ∧ isAggT P t = true := by
  unfold Ty at h
  unfold isAggT
  split at ht
  · rename_i fs hu
    rw [hu] at h
    cases ht
    rw [hu]
    exact ⟨tyTs_of h, rfl⟩
  · cases ht

/-- An argument: a struct's cells, or one cell. -/
def TyV (P : Program) (n : Nat) (t : TypeId) (a : AV) : Prop := ∃ cs, Ty P n t cs ∧ a = mkAV (isAggT P t) cs

theorem lift_arg {n : Nat} {t : TypeId} {v : Value} {d : DataW H} {ps : List MemPlace} {b0 : Nat} (hn : niceT P n t = true) (hv : Value.okWide P w .any b0 t v) (h : DataW.Trod enc P w 0 (fun _ => true) true t v d ps) :
    ∃ a, RepA (memW w) th0 a v ∧ TyV P n t a := by
  obtain ⟨fuel, h⟩ := h
  obtain ⟨_, as, h1, h2⟩ := lift_cells n fuel t _ _ hn h
  refine ⟨_, ?_, as, h2, rfl⟩
  cases n with
  | zero => cases hn
  | succ n =>
    have one : (∀ cs, v ≠ .agg cs) → v.cells = #[v] := fun h => by cases v <;> first | rfl | exact absurd rfl (h _)
    have fin : (∀ cs, v ≠ .agg cs) → ∀ c, as = [c] → RepA (memW w) th0 (mkAV false as) v := by
      intro hne c e
      subst e
      show RepA (memW w) th0 c v
      have := h1.2 0 c rfl
      rw [one hne] at this
      exact this.repA
    unfold Ty at h2
    split at h2
    · rename_i hu
      obtain ⟨b, rfl⟩ := okWide_bool hu hv
      obtain ⟨b, e⟩ := h2
      have ha : isAggT P t = false := by simp [isAggT, hu]
      rw [ha]
      exact fin (by simp) _ e
    · rename_i k hu
      obtain ⟨b, rfl⟩ := okWide_int hu hv
      obtain ⟨b, e, _⟩ := h2
      have ha : isAggT P t = false := by simp [isAggT, hu]
      rw [ha]
      exact fin (by simp) _ e
    · rename_i hu
      obtain ⟨b, rfl⟩ := okWide_string hu hv
      obtain ⟨b, e, _⟩ := h2
      have ha : isAggT P t = false := by simp [isAggT, hu]
      rw [ha]
      exact fin (by simp) _ e
    · rename_i e hu
      obtain ⟨b, _, _, rfl⟩ := okWide_slice hu hv
      obtain ⟨b, e, _⟩ := h2
      have ha : isAggT P t = false := by simp [isAggT, hu]
      rw [ha]
      exact fin (by simp) _ e
    · rename_i fs hu
      obtain ⟨cs, rfl, _⟩ := okWide_struct hu hv
      have ha : isAggT P t = true := by simp [isAggT, hu]
      rw [ha]
      refine ⟨cs, rfl, by rw [h1.1]; rfl, fun i c hc => ?_⟩
      have := h1.2 i c hc
      simpa [Value.cells, Array.getD_eq_getD_getElem?, List.getD_eq_getElem?_getD] using this
    · exact h2.elim

/-- The arguments, one by one. -/
inductive TyAll (P : Program) (n : Nat) : List TypeId → List AV → Prop
  | nil : TyAll P n [] []
  | cons {t : TypeId} {a : AV} {ts : List TypeId} {as : List AV} (h : TyV P n t a) (hs : TyAll P n ts as) : TyAll P n (t :: ts) (a :: as)

theorem lift_args {n b0 : Nat} : ∀ {ts : List TypeId} {vs : List Value} {ds : List (DataW H)} {ps : List MemPlace}, DataW.TrodAll enc P w 0 (fun _ => true) true ts vs ds ps → (∀ t ∈ ts, niceT P n t = true) →
    (∀ (j : Nat) t v, ts[j]? = some t → vs[j]? = some v → Value.okWide P w .any b0 t v) → ∃ as, TyAll P n ts as ∧ as.length = vs.length ∧ ∀ i a, as[i]? = some a → RepA (memW w) th0 a (vs.getD i undef)
  | [], [], [], _, _, _, _ => ⟨[], .nil, rfl, fun i a h => by simp at h⟩
  | t :: ts, v :: vs, d :: ds, ps, h, hn, hv => by
    obtain ⟨p, q, h1, h2, _⟩ := h
    obtain ⟨a, r1, r2⟩ := lift_arg (hn t (by simp)) (hv 0 t v rfl rfl) h1
    obtain ⟨as, k1, k2, k3⟩ := lift_args h2 (fun t ht => hn t (by simp [ht])) (fun j t v h1 h2 => hv (j + 1) t v h1 h2)
    refine ⟨a :: as, .cons r2 k1, by simp [k2], fun i b hb => ?_⟩
    cases i with
    | zero => simp at hb; subst hb; exact r1
    | succ i => exact k3 i b hb
  | [], _ :: _, _, _, h, _, _ => by cases h
  | [], [], _ :: _, _, h, _, _ => by cases h
  | _ :: _, [], _, _, h, _, _ => by cases h
  | _ :: _, _ :: _, [], _, h, _, _ => by cases h

theorem trods_stay (hl : laidOutB P = true) {W W' : World} (hb : Below W.heap.size W W') : ∀ {ts : List TypeId} {vs : List Value} {ds : List (DataW H)} {ps : List MemPlace}, (∀ t ∈ ts, P.readableRec t = true ∧ t < P.types.size) →
    DataW.TrodAll enc P W 0 (fun _ => true) true ts vs ds ps → (∀ x ∈ ps, x.block < W.heap.size) → DataW.TrodAll enc P W' 0 (fun b => decide (b < W.heap.size)) true ts vs ds ps
  | [], [], [], ps, _, h, _ => h
  | t :: ts, v :: vs, d :: ds, ps, hn, h, hlt => by
    obtain ⟨p, q, h1, h2, rfl⟩ := h
    exact ⟨p, q, Below.trod hl (hn t (by simp)).1 (hn t (by simp)).2 h1 hb (fun x hx => hlt x (by simp [hx])), trods_stay hl hb (fun t ht => hn t (by simp [ht])) h2 (fun x hx => hlt x (by simp [hx])), rfl⟩
  | [], _ :: _, _, _, _, h, _ => by cases h
  | [], [], _ :: _, _, _, h, _ => by cases h
  | _ :: _, [], _, _, _, h, _ => by cases h
  | _ :: _, _ :: _, [], _, _, h, _ => by cases h

/-- A law that the evaluator answers with 'true' for all plain data is answered so, and leaves all as it was. -/
theorem row_of {n : Nat} {f : FuncId} {fn : Func} {s : ChangeSpec} {W : World} {base : Nat} {args : Array Value} {ds gs : List (DataW H)} {before : List MemPlace} (hl : laidOutB P = true) {rt : TypeId} (hrt : fn.resultTypes = #[rt]) (hb : P.underlying rt = some .bool)
    (hres : (s.fn H (ds ++ gs)).results = [.lit (.bool true)]) (hargs : (s.fn H (ds ++ gs)).args = ds) (hvars : s.vars = []) (hvr : (s.fn H (ds ++ gs)).vars = [])
    (hn : ∀ t ∈ fn.params.toList, niceT P n t = true) (hr : ∀ t ∈ fn.params.toList, P.readableRec t = true ∧ t < P.types.size)
    (hcall : ∀ as, TyAll P n fn.params.toList as → CallR P f as [] (.bool true) [])
    (hval : ∀ (j : Nat) t v, fn.params[j]? = some t → args[j]? = some v → Value.okWide P W .any base t v) (hW : DataW.Whole enc P fn.params.toList s.vars false W args.toList ds gs before) :
    Calls P f args W fun e W' => ∃ v, e = .returned v ∧ s.post enc P fn false true false false W args v W' := by
  have hW' := hW
  have hlt := hW.lt
  obtain ⟨p, q, hA, hV, rfl, _, _⟩ := hW
  rw [hvars] at hV
  obtain ⟨rfl, rfl⟩ := trodVars_none hV
  obtain ⟨as, k1, k2, k3⟩ := lift_args hA hn (fun j t v h1 h2 => hval j t v (by simpa using h1) (by simpa using h2))
  refine ((hcall as k1).2 W (memW W) th0 args (start_st W) ⟨by simpa using k2.symm, fun i v hv => ?_⟩).mono ?_
  · have := k3 i v hv
    simpa [Array.getD_eq_getD_getElem?, List.getD_eq_getElem?_getD] using this
  · rintro e W' ⟨v, M', θ', rfl, h1, _, h3⟩
    have hv := h3.bool
    subst hv
    refine ⟨_, rfl, ?_⟩
    have hbelow : Below W.heap.size W W' := ⟨h1.os, h1.tape, h1.output, h1.size, fun k hk => h1.block k hk own0 (fun s => by simp)⟩
    refine ⟨ds, [], p ++ [], [], p, [], hW', ?_, ?_, ?_, hbelow.frame _, fun h => by cases h⟩
    · rw [hres, hrt]
      exact trodAll_mk1 (shut_bool hb true)
    · rw [hargs]
      exact trods_stay hl hbelow hr hA (fun x hx => hlt x (by simp [hx]))
    · rw [hvars, hvr]; exact rfl

end
end Go.Can

namespace Go.Can
open Go

section
variable {P : Program} {C : CallF} {base nid : Nat} {isv : Tmp → Bool} {bs : Tmp → Option Tmp} {ops rest : List Oper} {o : Oper} {env : Env} {σ : St} {c : Prop} [Decidable c]

def runS (P : Program) (C : CallF) (base : Nat) (isv : Tmp → Bool) (bs : Tmp → Option Tmp) (ops rest : List Oper) (nid : Nat) : Option S → Option S
  | some s => runO P C base isv bs ops rest nid s
  | none => none
@[go_sem high] theorem z_runC : runO P C base isv bs ops (o :: rest) nid (env, σ) = runS P C base isv bs ops rest (if allocs isv o then nid + 1 else nid) (stepO P C base isv bs ops nid o (env, σ)) := by
  rw [x_runS]; unfold runS; rfl
@[go_sem] theorem z_runN : runS P C base isv bs ops rest nid none = none := rfl
@[go_sem] theorem z_runV {s : S} : runS P C base isv bs ops rest nid (some s) = runO P C base isv bs ops rest nid s := rfl
@[go_sem] theorem z_runI {x y : Option S} : runS P C base isv bs ops rest nid (if c then x else y) = if c then runS P C base isv bs ops rest nid x else runS P C base isv bs ops rest nid y := by split <;> rfl

/-- One operation whose guard is met. -/
def stepE (P : Program) (C : CallF) (base : Nat) (isv : Tmp → Bool) (bs : Tmp → Option Tmp) (nid : Nat) (o : Oper) (s : S) : Option S := match evalOp P C base isv bs nid s.1 s.2 o with
  | some (env, σ, sl) => some (putA env o.dst sl, σ)
  | none => none

/-- A guarded operation; the guard's slot is set to what it is known to be. -/
def guardS (P : Program) (C : CallF) (base : Nat) (isv : Tmp → Bool) (bs : Tmp → Option Tmp) (nid : Nat) (o : Oper) (env : Env) (σ : St) (d : Tmp) (want : Bool) : Option Slot → Option S
  | some (.val (.bool b)) => if b = true then (if want = true then stepE P C base isv bs nid o (env.set d (.val (.bool true)), σ) else some (putA (env.set d (.val (.bool true))) o.dst .und, σ))
      else (if want = true then some (putA (env.set d (.val (.bool false))) o.dst .und, σ) else stepE P C base isv bs nid o (env.set d (.val (.bool false)), σ))
  | some .und | some (.val (.int _ _)) => some (putA env o.dst .und, σ)
  | _ => none

theorem set_noop {α : Type} {l : List α} {d : Nat} {x : α} (h : l[d]? = some x) : l.set d x = l := by
  apply List.ext_getElem?
  intro i
  by_cases hi : d = i
  · subst hi
    rw [List.getElem?_set_self (List.getElem?_eq_some_iff.1 h).1, h]
  · rw [List.getElem?_set_ne hi]

def guardD (P : Program) (C : CallF) (base : Nat) (isv : Tmp → Bool) (bs : Tmp → Option Tmp) (nid : Nat) (o : Oper) (env : Env) (σ : St) (want : Bool) : Option Tmp → Option S
  | none => some (putA env o.dst .und, σ)
  | some d => guardS P C base isv bs nid o env σ d want env[d]?
def guardK (P : Program) (C : CallF) (base : Nat) (isv : Tmp → Bool) (bs : Tmp → Option Tmp) (ops : List Oper) (nid : Nat) (o : Oper) (env : Env) (σ : St) : Option (Nat × Bool) → Option S
  | none => stepE P C base isv bs nid o (env, σ)
  | some (j, want) => guardD P C base isv bs nid o env σ want ((ops[j]?).bind (·.dst))
theorem z_step : stepO P C base isv bs ops nid o (env, σ) = if okDst env o.dst = true then guardK P C base isv bs ops nid o env σ o.guard else none := by
  unfold stepO guardK wantedA
  congr 1
  cases o.guard with
  | none => rfl
  | some g =>
    obtain ⟨j, want⟩ := g
    simp only
    unfold guardD
    cases (ops[j]?).bind (·.dst) with
    | none => rfl
    | some d =>
      simp only
      unfold guardS
      cases hd : env[d]? with
      | none => rfl
      | some sl =>
        cases sl with
        | val v =>
          cases v with
          | bool q =>
            cases q <;> cases want <;> simp [set_noop hd, stepE] <;> rfl
          | _ => rfl
        | _ => rfl
@[go_sem] theorem z_guardN : guardK P C base isv bs ops nid o env σ none = stepE P C base isv bs nid o (env, σ) := rfl
@[go_sem] theorem z_guardV {j : Nat} {want : Bool} : guardK P C base isv bs ops nid o env σ (some (j, want)) = guardD P C base isv bs nid o env σ want ((ops[j]?).bind (·.dst)) := rfl
@[go_sem] theorem z_guardD {d : Tmp} {want : Bool} : guardD P C base isv bs nid o env σ want (some d) = guardS P C base isv bs nid o env σ d want env[d]? := rfl
@[go_sem] theorem z_guardB {d : Tmp} {want b : Bool} : guardS P C base isv bs nid o env σ d want (some (.val (.bool b))) = if b = true then (if want = true then stepE P C base isv bs nid o (env.set d (.val (.bool true)), σ) else some (putA (env.set d (.val (.bool true))) o.dst .und, σ))
      else (if want = true then some (putA (env.set d (.val (.bool false))) o.dst .und, σ) else stepE P C base isv bs nid o (env.set d (.val (.bool false)), σ)) := rfl
@[go_sem] theorem z_guardU {d : Tmp} {want : Bool} : guardS P C base isv bs nid o env σ d want (some .und) = some (putA env o.dst .und, σ) := rfl

/-- An operation without effect on the heap, of a known kind. -/
theorem z_stepE : stepE P C base isv bs nid o (env, σ) = match evalOp P C base isv bs nid env σ o with
  | some (env, σ, sl) => some (putA env o.dst sl, σ)
  | none => none := rfl

def idxK (env : Env) (σ : St) (d : Option Tmp) (s : AV) (sz : Nat) (n : Int) : Option Nat → Option S
  | some len => if 0 ≤ n ∧ n < len then some (putA env d (.val (.elm s sz n.toNat 0)), σ) else none
  | none => none
@[go_sem] theorem z_idxS {d : Option Tmp} {s : AV} {sz : Nat} {n : Int} {len : Nat} : idxK env σ d s sz n (some len) = if 0 ≤ n ∧ n < len then some (putA env d (.val (.elm s sz n.toNat 0)), σ) else none := rfl
def idxL (P : Program) (env : Env) (σ : St) (d : Option Tmp) : Option (TypeId × Nat × Nat) → Option AV → Option AV → Option S
  | some (_, sz, _), some s, some (.int _ n) => idxK env σ d s sz n (lenS s)
  | _, _, _ => none
@[go_sem] theorem z_idxL {d : Option Tmp} {e : TypeId} {sz b : Nat} {s : AV} {k : IntKind} {n : Int} : idxL P env σ d (some (e, sz, b)) (some s) (some (.int k n)) = idxK env σ d s sz n (lenS s) := rfl
@[go_sem high] theorem z_index {d : Option Tmp} {t : TypeId} {x i : Operand} {ty : TypeId} {ps : String} {a : Array Edge} {g : Option (Nat × Bool)} :
    stepE P C base isv bs nid ⟨d, .indexAddr t x i, ty, ps, a, g⟩ (env, σ) = idxL P env σ d (elemT P t) (lookV env x) (lookV env i) := by
  unfold stepE evalOp evalV idxL
  simp only
  cases h1 : elemT P t with
  | none => rfl
  | some e =>
    obtain ⟨e1, e2, e3⟩ := e
    cases h2 : lookV env x with
    | none => rfl
    | some s =>
      cases h3 : lookV env i with
      | none => rfl
      | some v =>
        cases v with
        | int k n =>
          simp only
          unfold idxK
          cases lenS s with
          | none => rfl
          | some len =>
            simp only
            by_cases hc : 0 ≤ n ∧ n < (len : Int)
            · rw [if_pos hc, if_pos hc]
            · rw [if_neg hc, if_neg hc]
        | _ => rfl

def loadK (env : Env) (σ : St) (d : Option Tmp) : Option AV → Option S
  | some v => some (putA env d (.val v), σ)
  | none => none
@[go_sem] theorem z_loadN {d : Option Tmp} : loadK env σ d none = none := rfl
@[go_sem] theorem z_loadV {d : Option Tmp} {v : AV} : loadK env σ d (some v) = some (putA env d (.val v), σ) := rfl
@[go_sem] theorem z_loadI {d : Option Tmp} {x y : Option AV} : loadK env σ d (if c then x else y) = if c then loadK env σ d x else loadK env σ d y := by split <;> rfl
@[go_sem high] theorem z_load {d : Option Tmp} {t : TypeId} {x : Operand} {ty : TypeId} {ps : String} {a : Array Edge} {g : Option (Nat × Bool)} :
    stepE P C base isv bs nid ⟨d, .load t x, ty, ps, a, g⟩ (env, σ) = if (adrOk bs x (look env x) && ldOk isv d (look env x)) = true then loadK env σ d (loadAt P env σ t (look env x)) else none := by
  unfold stepE evalOp evalV
  simp only
  by_cases hc : (adrOk bs x (look env x) && ldOk isv d (look env x)) = true
  · rw [if_pos hc, if_pos hc]
    cases loadAt P env σ t (look env x) <;> rfl
  · rw [if_neg hc, if_neg hc]
def elmK (P : Program) (t : TypeId) (off : Nat) : Option AV → Option AV
  | some x => partA P t x.cells off
  | none => none
@[go_sem] theorem z_elmN {t off} : elmK P t off none = none := rfl
@[go_sem] theorem z_elmV {t off} {v : AV} : elmK P t off (some v) = partA P t v.cells off := rfl
@[go_sem] theorem z_elmI {t off} {x y : Option AV} : elmK P t off (if c then x else y) = if c then elmK P t off x else elmK P t off y := by split <;> rfl
def elmL (P : Program) (t : TypeId) (off i : Nat) : Option (List AV) → Option AV
  | some xs => elmK P t off xs[i]?
  | none => none
@[go_sem] theorem z_elmL {t off i} {xs : List AV} : elmL P t off i (some xs) = elmK P t off xs[i]? := rfl
@[go_sem high] theorem z_loadE {t : TypeId} {s : AV} {sz i off : Nat} : loadAt P env σ t (.val (.elm s sz i off)) = elmL P t off i (elems σ sz s) := by
  unfold loadAt elmL elmK
  simp only
  cases elems σ sz s with
  | none => rfl
  | some xs => rfl
/-- An element, if it is there. -/
theorem get_at {β : Type} {l : List β} {f : β → AV} {d : β} {i : Nat} : (l.map f)[i]? = if i < l.length then some (f (l.getD i d)) else none := by
  split
  · rename_i h; simp [h]
  · rename_i h; simp; omega
end

section
variable {P : Program} {cf : Cfg} {C : CallF} {base : Nat} {f : FuncId} {ops : List Oper} {env : Env} {σ : St} {c : Prop} [Decidable c]

def clrK (cf : Cfg) (f : FuncId) (ops : List Oper) : Option S → Option S
  | some (env, σ) => some (clearA (fun t => (cf.keep f).contains t) ops env, σ)
  | none => none
theorem z_regionT {s : S} : regionT P cf C base f ops s = clrK cf f ops (runO P C base (isvOf cf f) (baseAt (isvOf cf f) (baseOf (isvOf cf f) ops [])) ops ops s.2.length (s.1, s.2 ++ List.replicate (ops.countP (allocs (isvOf cf f))) .none)) := rfl
@[go_sem] theorem z_clrN : clrK cf f ops none = none := rfl
@[go_sem] theorem z_clrV : clrK cf f ops (some (env, σ)) = some (clearA (fun t => (cf.keep f).contains t) ops env, σ) := rfl
@[go_sem] theorem z_clrI {x y : Option S} : clrK cf f ops (if c then x else y) = if c then clrK cf f ops x else clrK cf f ops y := by split <;> rfl

def regK : Option S → Option (Out × S)
  | some s => some (.normal, s)
  | none => none
@[go_sem] theorem z_regN : regK none = none := rfl
@[go_sem] theorem z_regV {s : S} : regK (some s) = some (.normal, s) := rfl
@[go_sem] theorem z_regI {x y : Option S} : regK (if c then x else y) = if c then regK x else regK y := by split <;> rfl
end

section
variable {rg : Nat → Array Oper → Bool → S → Option S} {mk : Code → Option Out → Env → Option Env} {lp : LoopF} {env : Env} {σ : St} {c : Prop} [Decidable c] {a b : Code}

@[go_sem high] theorem z_region {i ops d} : execC rg mk lp (.region i ops d) (env, σ) = regK (rg i ops d (env, σ)) := by
  rw [x_region]; unfold regK; rfl

def seqK (rg : Nat → Array Oper → Bool → S → Option S) (mk : Code → Option Out → Env → Option Env) (lp : LoopF) (b : Code) : Option (Out × S) → Option (Out × S)
  | some (.normal, s') => execC rg mk lp b s'
  | r => r
@[go_sem high] theorem z_seq : execC rg mk lp (.seq a b) (env, σ) = seqK rg mk lp b (execC rg mk lp a (env, σ)) := by
  rw [x_seq]
  cases execC rg mk lp a (env, σ) with
  | none => rfl
  | some r =>
    obtain ⟨o, s⟩ := r
    cases o <;> rfl
@[go_sem] theorem z_seqN : seqK rg mk lp b none = none := rfl
@[go_sem] theorem z_seqV {s : S} : seqK rg mk lp b (some (.normal, s)) = execC rg mk lp b s := rfl
@[go_sem] theorem z_seqE {s : S} {i : Nat} : seqK rg mk lp b (some (.exit i, s)) = some (.exit i, s) := rfl
@[go_sem] theorem z_seqR {s : S} : seqK rg mk lp b (some (.ret, s)) = some (.ret, s) := rfl
@[go_sem] theorem z_seqI {x y : Option (Out × S)} : seqK rg mk lp b (if c then x else y) = if c then seqK rg mk lp b x else seqK rg mk lp b y := by split <;> rfl

def condK (rg : Nat → Array Oper → Bool → S → Option S) (mk : Code → Option Out → Env → Option Env) (lp : LoopF) (a b : Code) (env : Env) (σ : St) (d : Tmp) : Option AV → Option (Out × S)
  | some (.bool t) => if t = true then execC rg mk lp a (env.set d (.val (.bool true)), σ) else execC rg mk lp b (env.set d (.val (.bool false)), σ)
  | _ => none
@[go_sem high] theorem z_cond {d : Tmp} : execC rg mk lp (.cond (.tmp d) a b) (env, σ) = condK rg mk lp a b env σ d (lookV env (.tmp d)) := by
  rw [x_cond]
  cases h : lookV env (.tmp d) with
  | none => rfl
  | some v =>
    cases v with
    | bool t =>
      have hd : env[d]? = some (.val (.bool t)) := by
        unfold lookV look at h
        simp only at h
        cases he : env[d]? with
        | none => rw [he] at h; cases h
        | some sl =>
          rw [he] at h
          cases sl with
          | val v =>
            cases v <;> first | (cases h; rfl) | cases h
          | _ => cases h
      cases t
      · simp only [condK, set_noop hd, Bool.false_eq_true, if_false]
      · simp only [condK, set_noop hd, if_true]
    | _ => rfl
@[go_sem] theorem z_condS {d : Tmp} {t : Bool} : condK rg mk lp a b env σ d (some (.bool t)) = if t = true then execC rg mk lp a (env.set d (.val (.bool true)), σ) else execC rg mk lp b (env.set d (.val (.bool false)), σ) := rfl

def blkK (i : Nat) : Option (Out × S) → Option (Out × S)
  | some (.exit j, s') => if j = i then some (.normal, s') else some (.exit j, s')
  | r => r
@[go_sem high] theorem z_block {i} : execC rg mk lp (.block i a) (env, σ) = blkK i (execC rg mk lp a (env, σ)) := by
  rw [x_block]
  cases execC rg mk lp a (env, σ) with
  | none => rfl
  | some r =>
    obtain ⟨o, s⟩ := r
    cases o <;> rfl
@[go_sem] theorem z_blkN {i} : blkK i none = none := rfl
@[go_sem] theorem z_blkV {i} {s : S} : blkK i (some (.normal, s)) = some (.normal, s) := rfl
@[go_sem] theorem z_blkE {i j} {s : S} : blkK i (some (.exit j, s)) = if j = i then some (.normal, s) else some (.exit j, s) := rfl
@[go_sem] theorem z_blkR {i} {s : S} : blkK i (some (.ret, s)) = some (.ret, s) := rfl
@[go_sem] theorem z_blkI {i} {x y : Option (Out × S)} : blkK i (if c then x else y) = if c then blkK i x else blkK i y := by split <;> rfl
end

section
variable {P : Program} {cf : Cfg} {base : Nat} {f : FuncId} {a : Code} {c : Prop} [Decidable c]
@[go_sem] theorem z_nextI {x y : Option (Out × S)} : nextM P cf f base a (if c then x else y) = if c then nextM P cf f base a x else nextM P cf f base a y := by split <;> rfl
@[go_sem] theorem z_nextNone : nextM P cf f base a none = none := rfl

def finK (P : Program) (rs : List ResultVar) : Option (Out × S) → Option (AV × St)
  | some (.normal, s) | some (.ret, s) => match resOf P s.1 s.2 rs with
    | some vs => some (mkRes vs, s.2)
    | none => none
  | _ => none
theorem z_body {fn : Func} {code : Code} {args : List AV} {σ : St} : bodyT P cf f fn code args σ base = finK P fn.results.toList (execC (rgT P cf (callL P cf) base f) (mkT cf f) loopL code (startE fn.ntmps args, σ)) := by
  unfold bodyT finK
  rfl
@[go_sem] theorem z_finN {rs : List ResultVar} : finK P rs none = none := rfl
@[go_sem] theorem z_finV {rs : List ResultVar} {s : S} : finK P rs (some (.normal, s)) = match resOf P s.1 s.2 rs with
    | some vs => some (mkRes vs, s.2)
    | none => none := rfl
@[go_sem] theorem z_finR {rs : List ResultVar} {s : S} : finK P rs (some (.ret, s)) = match resOf P s.1 s.2 rs with
    | some vs => some (mkRes vs, s.2)
    | none => none := rfl
@[go_sem] theorem z_finE {rs : List ResultVar} {s : S} {i : Nat} : finK P rs (some (.exit i, s)) = none := rfl
@[go_sem] theorem z_finI {rs : List ResultVar} {x y : Option (Out × S)} : finK P rs (if c then x else y) = if c then finK P rs x else finK P rs y := by split <;> rfl
end

end Go.Can
