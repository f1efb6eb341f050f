/- A region whose order is drawn: every order that the edges leave open comes to what the text's order comes to. -/
import Derived.Test.YtgcfhcgnkohfkaaCanQ
set_option linter.unusedSimpArgs false
set_option linter.unusedVariables false
namespace Go.Can
open Go Go.RowKit
section
variable {P : Program} {Q : Exit → Act → World → Prop} {ops : Array Oper}

theorem runA_append {step : Nat → S → Option S} : ∀ {xs ys : List Nat} {s : S}, runA step (xs ++ ys) s = match runA step xs s with
    | some m => runA step ys m
    | none => none
  | [], _, _ => rfl
  | x :: xs, ys, s => by
    simp only [List.cons_append, runA]
    cases step x s with
    | none => rfl
    | some m => exact runA_append

theorem runA_front {step : Nat → S → Option S} {j : Nat} : ∀ {pre post : List Nat} {s s' : S}, (∀ i ∈ pre, ∀ s s1 s2, step i s = some s1 → step j s1 = some s2 → ∃ m, step j s = some m ∧ step i m = some s2) →
    runA step (pre ++ j :: post) s = some s' → ∃ m, step j s = some m ∧ runA step (pre ++ post) m = some s'
  | [], post, s, s', _, h => by
    simp only [List.nil_append, runA] at h ⊢
    cases hj : step j s with
    | none => rw [hj] at h; cases h
    | some m => rw [hj] at h; exact ⟨m, rfl, h⟩
  | i :: pre, post, s, s', hs, h => by
    simp only [List.cons_append, runA] at h
    cases hi : step i s with
    | none => rw [hi] at h; cases h
    | some s1 =>
      rw [hi] at h
      obtain ⟨m, h1, h2⟩ := runA_front (pre := pre) (fun k hk => hs k (by simp [hk])) h
      obtain ⟨m', h3, h4⟩ := hs i (by simp) s s1 m hi h1
      exact ⟨m', h3, by simp only [List.cons_append, runA, h4]; exact h2⟩

def openL (listed : Array Bool) (n : Nat) : List Nat := (List.range n).filter fun i => !listed.getD i true

theorem mem_openL {listed : Array Bool} {n i : Nat} : i ∈ openL listed n ↔ i < n ∧ listed.getD i true = false := by
  unfold openL; rw [List.mem_filter, List.mem_range]; simp

theorem openL_split {listed : Array Bool} {n j : Nat} (hn : listed.size = n) (hj : j ∈ openL listed n) :
    ∃ pre post, openL listed n = pre ++ j :: post ∧ openL (listed.setIfInBounds j true) n = pre ++ post ∧ ∀ i ∈ pre, i < j ∧ i ∈ openL listed n := by
  obtain ⟨hjn, hjo⟩ := mem_openL.1 hj
  have e : List.range n = List.range j ++ j :: (List.range' (j + 1) (n - j - 1)) := by
    rw [List.range_eq_range', List.range_eq_range']
    have : n = j + (1 + (n - j - 1)) := by omega
    conv => lhs; rw [this]
    rw [← List.range'_append, ← List.range'_append]
    simp [List.range']
  have hset : ∀ i, i ≠ j → (listed.setIfInBounds j true).getD i true = listed.getD i true := fun i hi => getD_set_ne true (Ne.symm hi)
  refine ⟨(List.range j).filter fun i => !listed.getD i true, (List.range' (j + 1) (n - j - 1)).filter fun i => !listed.getD i true, ?_, ?_, fun i hi => ?_⟩
  · unfold openL; rw [e, List.filter_append, List.filter_cons_of_pos (by rw [hjo]; rfl)]
  · unfold openL
    rw [e, List.filter_append, List.filter_cons_of_neg]
    · congr 1
      · exact List.filter_congr fun i hi => by rw [hset i (by have := List.mem_range.1 hi; omega)]
      · exact List.filter_congr fun i hi => by rw [hset i (by have := List.mem_range'_1.1 hi; omega)]
    · have : j < listed.size := by omega
      simp [Array.getD_eq_getD_getElem?, this]
  · obtain ⟨h1, h2⟩ := List.mem_filter.1 hi
    have h3 := List.mem_range.1 h1
    exact ⟨h3, mem_openL.2 ⟨by omega, by simpa using h2⟩⟩

/-- What 'regionOk' says, unfolded. -/
structure OrdOk (ops : Array Oper) (ind : Nat → Nat → Prop) : Prop where
  back : ∀ j y, ops[j]? = some y → ∀ e ∈ y.after.toList, Region.binds .any e = true → e.on < j
  pair : ∀ i j y, ops[j]? = some y → i < j → (∃ e ∈ y.after.toList, Region.binds .any e = true ∧ (e.on = i ∨ (i < e.on ∧ ((Region.before ops).getD e.on 0).testBit i = true))) ∨ ((Region.before ops).getD j 0).testBit i = false ∧ ind i j
  bits : ∀ i j y, ops[j]? = some y → i < j → ((Region.before ops).getD j 0).testBit i = true → ∃ e ∈ y.after.toList, Region.binds .any e = true ∧ (e.on = i ∨ (i < e.on ∧ ((Region.before ops).getD e.on 0).testBit i = true))

theorem regionOk_spec {pure grow : FuncId → Bool} {isv : Tmp → Bool} {bs : Tmp → Option Tmp} (h : regionOk P pure grow isv bs ops = true) :
    OrdOk ops (fun i j => ∀ x y, ops[i]? = some x → ops[j]? = some y → indep P pure grow isv bs ops.toList x y = true) := by
  unfold regionOk at h
  rw [List.all_eq_true] at h
  have main : ∀ j y, ops[j]? = some y → (y.after.toList.all fun e => !Region.binds .any e || decide (e.on < j)) = true ∧ ∀ i, i < j → ∀ x, ops[i]? = some x →
      (if ((Region.before ops).getD j 0).testBit i then y.after.toList.any fun e => Region.binds .any e && (e.on == i || (decide (i < e.on) && ((Region.before ops).getD e.on 0).testBit i)) else indep P pure grow isv bs ops.toList x y) = true := by
    intro j y hy
    have h1 := h j (List.mem_range.2 (Array.getElem?_eq_some_iff.1 hy).1)
    simp only [hy, Bool.and_eq_true] at h1
    refine ⟨h1.1, fun i hi x hx => ?_⟩
    have h2 := List.all_eq_true.1 h1.2 i (List.mem_range.2 hi)
    simpa only [hx] using h2
  have bits : ∀ i j y, ops[j]? = some y → i < j → ((Region.before ops).getD j 0).testBit i = true → ∃ e ∈ y.after.toList, Region.binds .any e = true ∧ (e.on = i ∨ (i < e.on ∧ ((Region.before ops).getD e.on 0).testBit i = true)) := by
    intro i j y hy hi hb
    have hlt : i < ops.size := Nat.lt_trans hi (Array.getElem?_eq_some_iff.1 hy).1
    have h1 := (main j y hy).2 i hi ops[i] (Array.getElem?_eq_getElem hlt)
    rw [if_pos hb, List.any_eq_true] at h1
    obtain ⟨e, he, h2⟩ := h1
    simp only [Bool.and_eq_true, Bool.or_eq_true, beq_iff_eq, decide_eq_true_eq] at h2
    exact ⟨e, he, h2⟩
  refine ⟨fun j y hy e he hb => ?_, fun i j y hy hi => ?_, bits⟩
  · have h1 := List.all_eq_true.1 (main j y hy).1 e he
    rw [hb] at h1
    simpa using h1
  · cases hb : ((Region.before ops).getD j 0).testBit i with
    | true => exact .inl (bits i j y hy hi hb)
    | false =>
      right
      refine ⟨rfl, fun x y' hx hy' => ?_⟩
      have e : y' = y := Option.some.inj (hy'.symm.trans hy)
      rw [e]
      have := (main j y hy).2 i hi x hx
      rw [hb] at this
      simpa using this

theorem any_sound {ind : Nat → Nat → Prop} (ho : OrdOk ops ind) {step : Nat → S → Option S} {Rel : S → Act → World → Prop}
    (hstep : ∀ j s m a w (K : Act → World → Prop), Rel s a w → step j s = some m → (∀ a' w', Rel m a' w' → K a' w') → wpOp P ops Q j K a w)
    (hswap : ∀ i j, i < j → ind i j → ∀ s s1 s2, step i s = some s1 → step j s1 = some s2 → ∃ m, step j s = some m ∧ step i m = some s2) {s' : S}
    (hQ : ∀ a w, Rel s' a w → Q .normal a w) :
    ∀ (fuel : Nat) (listed : Array Bool) (s : S) (a : Act) (w : World), listed.size = ops.size →
      (∀ k, k < ops.size → listed.getD k true = true → ∀ i, i < k → ((Region.before ops).getD k 0).testBit i = true → listed.getD i true = true) →
      (openL listed ops.size).length ≤ fuel → runA step (openL listed ops.size) s = some s' → Rel s a w → wpAny P .any ops Q fuel listed a w := by
  have getDD : ∀ {listed : Array Bool} {i : Nat}, listed.size = ops.size → i < ops.size → listed.getD i false = listed.getD i true := fun {listed i} h1 h2 => by
    simp [Array.getD_eq_getD_getElem?, h1, h2]
  have hlast : ∀ (listed : Array Bool) (s : S) (a : Act) (w : World), listed.size = ops.size → Region.ready .any ops listed = [] → runA step (openL listed ops.size) s = some s' → Rel s a w → Q .normal a w := by
    intro listed s a w hsz hr hrun hrel
    cases hol : openL listed ops.size with
    | nil => rw [hol] at hrun; cases hrun; exact hQ a w hrel
    | cons j rest =>
      exfalso
      have hj : j ∈ openL listed ops.size := by rw [hol]; simp
      obtain ⟨hjn, hjo⟩ := mem_openL.1 hj
      have hmin : ∀ i ∈ openL listed ops.size, j ≤ i := by
        obtain ⟨pre, post, e1, _, e3⟩ := openL_split hsz hj
        have hp : pre = [] := by
          cases pre with
          | nil => rfl
          | cons p pre =>
            have := e3 p (by simp)
            rw [hol] at e1
            simp at e1
            omega
        have hsorted : (openL listed ops.size).Pairwise (· < ·) := List.Pairwise.filter _ (List.pairwise_lt_range)
        intro i hi
        rw [hol] at hi hsorted
        rcases List.mem_cons.1 hi with h | h
        · omega
        · have := (List.pairwise_cons.1 hsorted).1 i h; omega
      have : j ∈ Region.ready .any ops listed := by
        rw [mem_ready]
        refine ⟨hjo, ops[j], Array.getElem?_eq_getElem hjn, fun e he hb => ?_⟩
        have hlt := ho.back j _ (Array.getElem?_eq_getElem hjn) e (Array.mem_toList_iff.2 he) hb
        rw [getDD hsz (by omega)]
        cases hl : listed.getD e.on true with
        | true => rfl
        | false => have := hmin e.on (mem_openL.2 ⟨by omega, hl⟩); omega
      rw [hr] at this; cases this
  intro fuel
  induction fuel with
  | zero =>
    intro listed s a w hsz hdn hlen hrun hrel
    have hnil : openL listed ops.size = [] := List.eq_nil_of_length_eq_zero (by omega)
    refine ⟨?_, ?_⟩
    · cases hr : Region.ready .any ops listed with
      | nil => rfl
      | cons j rest =>
        exfalso
        have hj : j ∈ Region.ready .any ops listed := by rw [hr]; simp
        obtain ⟨h1, o, h2, _⟩ := mem_ready.1 hj
        have := mem_openL.2 ⟨(Array.getElem?_eq_some_iff.1 h2).1, h1⟩
        rw [hnil] at this; cases this
    · rw [hnil] at hrun; cases hrun; exact hQ a w hrel
  | succ fuel ih =>
    intro listed s a w hsz hdn hlen hrun hrel
    refine ⟨fun hr => hlast listed s a w hsz hr hrun hrel, fun j hj => ?_⟩
    obtain ⟨h1, o, h2, h3⟩ := mem_ready.1 hj
    have hjn : j < ops.size := (Array.getElem?_eq_some_iff.1 h2).1
    have hjo : j ∈ openL listed ops.size := mem_openL.2 ⟨hjn, h1⟩
    obtain ⟨pre, post, e1, e2, e3⟩ := openL_split hsz hjo
    have hback : ∀ i, i < j → (∃ e ∈ o.after.toList, Region.binds .any e = true ∧ (e.on = i ∨ (i < e.on ∧ ((Region.before ops).getD e.on 0).testBit i = true))) → listed.getD i true = true := by
      rintro i hi ⟨e, he, hb, hor⟩
      have hlt := ho.back j o h2 e he hb
      have hl := h3 e (Array.mem_toList_iff.1 he) hb
      rw [getDD hsz (by omega)] at hl
      rcases hor with rfl | ⟨h4, h5⟩
      · exact hl
      · exact hdn e.on (by omega) hl i h4 h5
    have hfront := runA_front (step := step) (j := j) (pre := pre) (post := post) (s := s) (s' := s') (fun i hi => by
      obtain ⟨hij, hio⟩ := e3 i hi
      rcases ho.pair i j o h2 hij with h4 | ⟨_, h4⟩
      · have h5 := hback i hij h4
        have h6 := (mem_openL.1 hio).2
        rw [h5] at h6; cases h6
      · exact hswap i j hij h4) (by rw [← e1]; exact hrun)
    obtain ⟨m, h4, h5⟩ := hfront
    refine hstep j s m a w _ hrel h4 fun a' w' hr' => ?_
    refine ih _ m a' w' (by simp [hsz]) (fun k hk hl i hi hb => ?_) ?_ (by rw [e2]; exact h5) hr'
    · by_cases hkj : k = j
      · subst hkj
        have := hback i hi (ho.bits i k o h2 hi hb)
        rw [getD_set_ne true (by omega)]; exact this
      · rw [getD_set_ne true (Ne.symm hkj)] at hl
        have := hdn k hk hl i hi hb
        by_cases hij : i = j
        · subst hij; rw [h1] at this; cases this
        · rw [getD_set_ne true (Ne.symm hij)]; exact this
    · rw [e1] at hlen; rw [e2]; simp at hlen ⊢; omega

/-- The region, its order drawn. -/
theorem draw_sound {ind : Nat → Nat → Prop} (ho : OrdOk ops ind) {step : Nat → S → Option S} {Rel : S → Act → World → Prop}
    (hstep : ∀ j s m a w (K : Act → World → Prop), Rel s a w → step j s = some m → (∀ a' w', Rel m a' w' → K a' w') → wpOp P ops Q j K a w)
    (hswap : ∀ i j, i < j → ind i j → ∀ s s1 s2, step i s = some s1 → step j s1 = some s2 → ∃ m, step j s = some m ∧ step i m = some s2) {s s' : S}
    (hQ : ∀ a w, Rel s' a w → Q .normal a w) {a : Act} {w : World} (hrun : runA step (List.range ops.size) s = some s') (hrel : Rel s a w) :
    wpAny P .any ops Q ops.size (Array.replicate ops.size false) a w := by
  have hol : openL (Array.replicate ops.size false) ops.size = List.range ops.size := by
    unfold openL
    rw [List.filter_eq_self]
    intro i hi
    have := List.mem_range.1 hi
    simp [Array.getD_eq_getD_getElem?, this]
  refine any_sound ho hstep hswap hQ ops.size _ s a w (by simp) (fun k hk hl => ?_) (by rw [hol]; simp) (by rw [hol]; exact hrun) hrel
  simp [Array.getD_eq_getD_getElem?, hk] at hl

/-- The region in the text's order. -/
theorem text_sound {step : Nat → S → Option S} {Rel : S → Act → World → Prop}
    (hstep : ∀ j s m a w (K : Act → World → Prop), Rel s a w → step j s = some m → (∀ a' w', Rel m a' w' → K a' w') → wpOp P ops Q j K a w) {s' : S}
    (hQ : ∀ a w, Rel s' a w → Q .normal a w) : ∀ {l : List Nat} {s : S} {a : Act} {w : World}, runA step l s = some s' → Rel s a w → wpOps P ops Q l a w
  | [], s, a, w, hrun, hrel => by cases hrun; exact hQ a w hrel
  | i :: l, s, a, w, hrun, hrel => by
    rw [wpOps_cons]
    simp only [runA] at hrun
    cases hi : step i s with
    | none => rw [hi] at hrun; cases hrun
    | some m =>
      rw [hi] at hrun
      exact hstep i s m a w _ hrel hi fun a' w' hr' => text_sound hstep hQ hrun hr'

end
end Go.Can
