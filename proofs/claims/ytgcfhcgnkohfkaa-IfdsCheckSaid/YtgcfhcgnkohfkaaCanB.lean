/- How the evaluator's values and small heap stand to the model's values and world: the relation, and what keeps it. -/
import Derived.Test.YtgcfhcgnkohfkaaCanA2
set_option linter.unusedSimpArgs false
set_option linter.unusedVariables false
namespace Go.Can

abbrev Mem := Nat → Nat → Option Value

structure Th where
  tr : Nat → Nat → Option (Option Nat × Nat × Nat)
  tc : Nat → Option Nat

/-- One cell. -/
inductive Cell (M : Mem) (θ : Th) : AV → Value → Prop
  | int (k : IntKind) (n : Int) : Cell M θ (.int k n) (.int k n)
  | bool (b : Bool) : Cell M θ (.bool b) (.bool b)
  | str (s : ByteArray) : Cell M θ (.str s) (.string s)
  | nilp : Cell M θ .nilp (.pointer none)
  | nilf : Cell M θ .nilf .nilFunc
  | nili : Cell M θ .nili .nilIface
  | list (full : Bool) (sz : Nat) (xs : List AV) (a : Option Addr) (cap : Nat) (u : Nat → Nat → Value)
      (hc : xs.length ≤ cap) (hm : cap ≤ maxLen) (hf : full = true → cap = xs.length) (hs : ∀ x ∈ xs, x.cells.length = sz)
      (ha : xs ≠ [] → ∃ g o, a = some ⟨g, o, none⟩ ∧ ∀ i x, xs[i]? = some x → ∀ j c, x.cells[j]? = some c → M g (o + (i * sz + j)) = some (u i j))
      (he : ∀ i x, xs[i]? = some x → ∀ j c, x.cells[j]? = some c → Cell M θ c (u i j)) : Cell M θ (.list full sz xs) (.slice a xs.length cap)
  | row (sz id gen off len : Nat) (lim : Bool) (a : Option Addr) (cap' cap : Nat) (b : Option Nat) (ht : θ.tr id gen = some (b, cap, sz))
      (h1 : off + len ≤ gen) (hg : gen ≤ cap) (hm : cap ≤ maxLen) (hb : b = none → cap = 0) (hc : cap' = if lim then len else cap - off)
      (ha : cap' = 0 ∨ ∃ g, b = some g ∧ a = some ⟨g, off * sz, none⟩) : Cell M θ (.row sz id gen off len lim) (.slice a len cap')
  | elm (s : AV) (sz i off g o len cap : Nat) (hs : Cell M θ s (.slice (some ⟨g, o, none⟩) len cap)) (hi : i < len) :
      Cell M θ (.elm s sz i off) (.pointer (some ⟨g, o + (i * sz + off), none⟩))
  | ptr (id off g : Nat) (h : θ.tc id = some g) : Cell M θ (.ptr id off) (.pointer (some ⟨g, off, none⟩))
  | mapN : Cell M θ (.map none) (.map none)
  | mapS (id g : Nat) (h : θ.tc id = some g) : Cell M θ (.map (some id)) (.map (some g))
  | fn (f : FuncId) (fi ca : List AV) (fu cu : Array Value) (hfs : fu.size = fi.length) (hcs : cu.size = ca.length)
      (hf : ∀ i c, fi[i]? = some c → Cell M θ c (fu.getD i undef)) (hc : ∀ i c, ca[i]? = some c → Cell M θ c (cu.getD i undef)) : Cell M θ (.fn f fi ca) (.func (.func f) fu cu)

def CellsR (M : Mem) (θ : Th) (cs : List AV) (us : Array Value) : Prop := us.size = cs.length ∧ ∀ i c, cs[i]? = some c → Cell M θ c (us.getD i undef)

/-- A value of one cell, or a struct's cells. -/
def RepA (M : Mem) (θ : Th) (v : AV) (u : Value) : Prop :=
  match v with
  | .agg cs => ∃ us, u = .agg us ∧ CellsR M θ cs us
  | v => Cell M θ v u

def Rep (M : Mem) (θ : Th) (v : AV) (u : Value) : Prop :=
  match v with
  | .tup vs => ∃ us : Array Value, u = .tuple us ∧ us.size = vs.length ∧ ∀ i c, vs[i]? = some c → RepA M θ c (us.getD i undef)
  | v => RepA M θ v u

def Mem.le (M M' : Mem) : Prop := ∀ g o v, M g o = some v → M' g o = some v
structure Th.le (θ θ' : Th) : Prop where
  tr : ∀ id gen x, θ.tr id gen = some x → θ'.tr id gen = some x
  tc : ∀ id g, θ.tc id = some g → θ'.tc id = some g

theorem Mem.le_refl (M : Mem) : M.le M := fun _ _ _ h => h
theorem Th.le_refl (θ : Th) : θ.le θ := ⟨fun _ _ _ h => h, fun _ _ h => h⟩
theorem Mem.le_trans {A B C : Mem} (h : A.le B) (k : B.le C) : A.le C := fun g o v e => k g o v (h g o v e)
theorem Th.le_trans {A B C : Th} (h : A.le B) (k : B.le C) : A.le C := ⟨fun i g x e => k.tr i g x (h.tr i g x e), fun i g e => k.tc i g (h.tc i g e)⟩

theorem Cell.mono {M M' : Mem} {θ θ' : Th} (hM : M.le M') (hθ : θ.le θ') {v : AV} {u : Value} (h : Cell M θ v u) : Cell M' θ' v u := by
  induction h with
  | int k n => exact .int k n
  | bool b => exact .bool b
  | str s => exact .str s
  | nilp => exact .nilp
  | nilf => exact .nilf
  | nili => exact .nili
  | list full sz xs a cap u hc hm hf hs ha _ ih =>
    refine .list full sz xs a cap u hc hm hf hs (fun hne => ?_) ih
    obtain ⟨g, o, e, h⟩ := ha hne
    exact ⟨g, o, e, fun i x hx j c hcc => hM _ _ _ (h i x hx j c hcc)⟩
  | row sz id gen off len lim a cap' cap b ht h1 hg hm hb hc ha => exact .row sz id gen off len lim a cap' cap b (hθ.tr _ _ _ ht) h1 hg hm hb hc ha
  | elm s sz i off g o len cap _ hi ih => exact .elm s sz i off g o len cap ih hi
  | ptr id off g h => exact .ptr id off g (hθ.tc _ _ h)
  | mapN => exact .mapN
  | mapS id g h => exact .mapS id g (hθ.tc _ _ h)
  | fn f fi ca fu cu h1 h2 _ _ ih1 ih2 => exact .fn f fi ca fu cu h1 h2 ih1 ih2

theorem CellsR.mono {M M' : Mem} {θ θ' : Th} (hM : M.le M') (hθ : θ.le θ') {cs : List AV} {us : Array Value} (h : CellsR M θ cs us) : CellsR M' θ' cs us :=
  ⟨h.1, fun i c hc => (h.2 i c hc).mono hM hθ⟩

theorem RepA.mono {M M' : Mem} {θ θ' : Th} (hM : M.le M') (hθ : θ.le θ') {v : AV} {u : Value} (h : RepA M θ v u) : RepA M' θ' v u := by
  unfold RepA at *
  split at h
  · obtain ⟨us, e, h⟩ := h; exact ⟨us, e, h.mono hM hθ⟩
  · exact h.mono hM hθ

theorem Rep.mono {M M' : Mem} {θ θ' : Th} (hM : M.le M') (hθ : θ.le θ') {v : AV} {u : Value} (h : Rep M θ v u) : Rep M' θ' v u := by
  unfold Rep at *
  split at h
  · obtain ⟨us, e, h1, h2⟩ := h; exact ⟨us, e, h1, fun i c hc => (h2 i c hc).mono hM hθ⟩
  · exact h.mono hM hθ

theorem Cell.oneCell {M : Mem} {θ : Th} {v : AV} {u : Value} (h : Cell M θ v u) : u.oneCell' = true := by cases h <;> rfl

theorem Cell.not_agg {M : Mem} {θ : Th} {cs : List AV} {u : Value} (h : Cell M θ (.agg cs) u) : False := by cases h
theorem Cell.not_tup {M : Mem} {θ : Th} {cs : List AV} {u : Value} (h : Cell M θ (.tup cs) u) : False := by cases h

theorem Cell.repA {M : Mem} {θ : Th} {v : AV} {u : Value} (h : Cell M θ v u) : RepA M θ v u := by
  unfold RepA
  split
  · exact h.not_agg.elim
  · exact h

theorem RepA.rep {M : Mem} {θ : Th} {v : AV} {u : Value} (h : RepA M θ v u) : Rep M θ v u := by
  unfold Rep
  split
  · exact (Cell.not_tup (by simpa [RepA] using h)).elim
  · exact h

theorem Cell.rep {M : Mem} {θ : Th} {v : AV} {u : Value} (h : Cell M θ v u) : Rep M θ v u := h.repA.rep

/-- What is no tuple is one cell or a struct. -/
theorem Rep.repA {M : Mem} {θ : Th} {v : AV} {u : Value} (h : Rep M θ v u) (hv : ∀ vs, v ≠ .tup vs) : RepA M θ v u := by
  unfold Rep at h
  split at h
  · exact (hv _ rfl).elim
  · exact h

theorem RepA.cell {M : Mem} {θ : Th} {v : AV} {u : Value} (h : RepA M θ v u) (hv : ∀ vs, v ≠ .agg vs) : Cell M θ v u := by
  unfold RepA at h
  split at h
  · exact (hv _ rfl).elim
  · exact h

theorem Rep.cell {M : Mem} {θ : Th} {v : AV} {u : Value} (h : Rep M θ v u) (h1 : ∀ vs, v ≠ .tup vs) (h2 : ∀ vs, v ≠ .agg vs) : Cell M θ v u := (h.repA h1).cell h2

theorem RepA.cells {M : Mem} {θ : Th} {v : AV} {u : Value} (h : RepA M θ v u) : CellsR M θ v.cells u.cells := by
  unfold RepA at h
  split at h
  · obtain ⟨us, rfl, h⟩ := h; exact h
  · rename_i hv
    have e1 : v.cells = [v] := by cases v <;> first | rfl | exact absurd rfl (hv _)
    have e2 : u.cells = #[u] := by cases h <;> rfl
    rw [e1, e2]
    refine ⟨rfl, fun i c hc => ?_⟩
    cases i with
    | zero => simp at hc; subst hc; exact h
    | succ i => simp at hc

/-! The small heap. -/

/-- Object number 'id' has the model's block 'g' for its own. -/
def OwnAt (θ : Th) (σ : St) (id g : Nat) : Prop :=
  match σ[id]? with
  | some (.row _ xs) => ∃ cap s, θ.tr id xs.length = some (some g, cap, s)
  | some (.cells _) | some (.map _) => θ.tc id = some g
  | _ => False

def Own (θ : Th) (σ : St) (g : Nat) : Prop := ∃ id, OwnAt θ σ id g

/-- The cells of a block hold these elements, one after another. -/
def RowR (M : Mem) (θ : Th) (sz : Nat) (xs : List AV) (cur : Array Value) : Prop :=
  ∀ i x, xs[i]? = some x → ∀ j c, x.cells[j]? = some c → Cell M θ c (cur.getD (i * sz + j) undef)

def EntR (M : Mem) (θ : Th) (es : List (AV × AV)) (us : Array MapEntry) : Prop :=
  us.size = es.length ∧ ∀ (i : Nat) (k v : AV), es[i]? = some (k, v) → ∃ e : MapEntry, us[i]? = some e ∧ RepA M θ k e.key ∧ RepA M θ v e.val

/-- The entries' stamps: each elder than the map's clock, no two alike. -/
def Born (us : Array MapEntry) (clock : Nat) : Prop := (∀ e ∈ us.toList, e.born < clock) ∧ (us.toList.map (·.born)).Nodup

def ObR (w : World) (M : Mem) (θ : Th) (id : Nat) : Ob → Prop
  | .none => (∀ gen, θ.tr id gen = none) ∧ θ.tc id = none
  | .row sz xs => θ.tc id = none ∧ (∀ gen x, θ.tr id gen = some x → gen ≤ xs.length) ∧ 0 < sz ∧ (∀ x ∈ xs, x.cells.length = sz) ∧
      ∃ b cap, θ.tr id xs.length = some (b, cap, sz) ∧ xs.length ≤ cap ∧ cap ≤ maxLen ∧
        match b with
        | none => xs = [] ∧ cap = 0
        | some g => ∃ cur e, w.heap[g]? = some (.cells cur e (0, 0)) ∧ cur.size = cap * sz ∧ RowR M θ sz xs cur
  | .cells cs => (∀ gen, θ.tr id gen = none) ∧ ∃ g cur e, θ.tc id = some g ∧ w.heap[g]? = some (.cells cur e (0, 0)) ∧ CellsR M θ cs cur
  | .map es => (∀ gen, θ.tr id gen = none) ∧ ∃ g us clock, θ.tc id = some g ∧ w.heap[g]? = some (.map us clock) ∧ EntR M θ es us ∧ Born us clock

structure StR (w : World) (M : Mem) (θ : Th) (σ : St) : Prop where
  mem : ∀ g o v, M g o = some v → w.cell? ⟨g, o, none⟩ = some v
  ob : ∀ id x, σ[id]? = some x → ObR w M θ id x
  dis : ∀ i j g, OwnAt θ σ i g → OwnAt θ σ j g → i = j
  out : ∀ g, Own θ σ g → ∀ o, M g o = none
  far : ∀ id, σ.length ≤ id → (∀ gen, θ.tr id gen = none) ∧ θ.tc id = none

theorem OwnAt.lt {w : World} {M : Mem} {θ : Th} {σ : St} (h : StR w M θ σ) {id g : Nat} (ho : OwnAt θ σ id g) : g < w.heap.size := by
  unfold OwnAt at ho
  have lt_of : ∀ {x : Obj}, w.heap[g]? = some x → g < w.heap.size := fun e => (Array.getElem?_eq_some_iff.1 e).1
  split at ho
  · rename_i s xs hx
    obtain ⟨cap, s', ho⟩ := ho
    obtain ⟨_, _, _, _, b, cap', h1, _, _, h2⟩ := h.ob _ _ hx
    rw [ho] at h1
    simp only [Option.some.injEq, Prod.mk.injEq] at h1
    obtain ⟨rfl, _, _⟩ := h1
    obtain ⟨cur, e, h3, _⟩ := h2
    exact lt_of h3
  · rename_i cs hx
    obtain ⟨_, g', cur, e, h1, h2, _⟩ := h.ob _ _ hx
    rw [ho] at h1; cases h1
    exact lt_of h2
  · rename_i es hx
    obtain ⟨_, g', cur, e, h1, h2, _⟩ := h.ob _ _ hx
    rw [ho] at h1; cases h1
    exact lt_of h2
  · exact ho.elim

/-! The frame. 'π': the block of each local variable. -/

def SlotR (w : World) (M : Mem) (θ : Th) (π : Nat → Option Nat) (s : Nat) (sl : Slot) (u : Value) : Prop :=
  match sl with
  | .val v => Rep M θ v u
  | .plc t off => ∃ g, π t = some g ∧ u = .pointer (some ⟨g, off, none⟩)
  | .var cs => ∃ g cur e, π s = some g ∧ u = .pointer (some ⟨g, 0, none⟩) ∧ w.heap[g]? = some (.cells cur e (0, 0)) ∧ CellsR M θ cs cur
  | .und => u = undef
  | .top => True

structure FrR (w : World) (M : Mem) (θ : Th) (σ : St) (π : Nat → Option Nat) (env : Env) (tmps : Array Value) : Prop where
  size : tmps.size = env.length
  slot : ∀ s sl, env[s]? = some sl → SlotR w M θ π s sl (tmps.getD s undef)
  dom : ∀ s g, π s = some g → ∃ cs, env[s]? = some (.var cs)
  inj : ∀ s t g, π s = some g → π t = some g → s = t
  out : ∀ s g, π s = some g → (∀ o, M g o = none) ∧ ¬ Own θ σ g

/-- How one state goes over into a later one: what is not owned here has not been touched; what is owned now was owned before, or is new. -/
structure Ext (w : World) (M : Mem) (θ : Th) (σ : St) (π : Nat → Option Nat) (w' : World) (M' : Mem) (θ' : Th) (σ' : St) (π' : Nat → Option Nat) : Prop where
  os : w'.os = w.os
  tape : w'.tape = w.tape
  output : w'.output = w.output
  size : w.heap.size ≤ w'.heap.size
  m : M.le M'
  t : θ.le θ'
  block : ∀ g, g < w.heap.size → ¬ Own θ σ g → (∀ s, π s ≠ some g) → w'.heap[g]? = w.heap[g]?
  own : ∀ g, Own θ' σ' g → Own θ σ g ∨ w.heap.size ≤ g
  var : ∀ s g, π' s = some g → (∃ s', π s' = some g) ∨ w.heap.size ≤ g
  dom : ∀ g o v, M' g o = some v → M g o = some v ∨ w.heap.size ≤ g ∨ Own θ σ g

theorem Ext.refl (w : World) (M : Mem) (θ : Th) (σ : St) (π : Nat → Option Nat) : Ext w M θ σ π w M θ σ π :=
  ⟨rfl, rfl, rfl, Nat.le_refl _, M.le_refl, θ.le_refl, fun _ _ _ _ => rfl, fun _ h => .inl h, fun s _ h => .inl ⟨s, h⟩, fun _ _ _ h => .inl h⟩

theorem Ext.trans {w w1 w2 : World} {M M1 M2 : Mem} {θ θ1 θ2 : Th} {σ σ1 σ2 : St} {π π1 π2 : Nat → Option Nat}
    (h : Ext w M θ σ π w1 M1 θ1 σ1 π1) (k : Ext w1 M1 θ1 σ1 π1 w2 M2 θ2 σ2 π2) : Ext w M θ σ π w2 M2 θ2 σ2 π2 where
  os := k.os.trans h.os
  tape := k.tape.trans h.tape
  output := k.output.trans h.output
  size := Nat.le_trans h.size k.size
  m := Mem.le_trans h.m k.m
  t := Th.le_trans h.t k.t
  block := fun g hg ho hp => by
    refine (k.block g (by have := h.size; omega) (fun h1 => ?_) (fun s h1 => ?_)).trans (h.block g hg ho hp)
    · rcases h.own g h1 with h2 | h2
      · exact ho h2
      · omega
    · rcases h.var s g h1 with ⟨s', h2⟩ | h2
      · exact hp s' h2
      · omega
  own := fun g h1 => by
    rcases k.own g h1 with h2 | h2
    · exact h.own g h2
    · exact .inr (Nat.le_trans h.size h2)
  var := fun s g h1 => by
    rcases k.var s g h1 with ⟨s', h2⟩ | h2
    · exact h.var s' g h2
    · exact .inr (Nat.le_trans h.size h2)
  dom := fun g o v h1 => by
    rcases k.dom g o v h1 with h2 | h2 | h2
    · exact h.dom g o v h2
    · exact .inr (.inl (Nat.le_trans h.size h2))
    · rcases h.own g h2 with h3 | h3
      · exact .inr (.inr h3)
      · exact .inr (.inl h3)

/-! What a world must keep for the relation to stand. -/

theorem ObR.keep {w w' : World} {M M' : Mem} {θ : Th} {σ : St} {id : Nat} {x : Ob} (hM : M.le M') (hx : σ[id]? = some x)
    (hw : ∀ g, OwnAt θ σ id g → w'.heap[g]? = w.heap[g]?) (h : ObR w M θ id x) : ObR w' M' θ id x := by
  cases x with
  | none => exact h
  | row sz xs =>
    obtain ⟨h0, h1, h2, h3, b, cap, h4, h5, h6, h7⟩ := h
    refine ⟨h0, h1, h2, h3, b, cap, h4, h5, h6, ?_⟩
    cases b with
    | none => exact h7
    | some g =>
      obtain ⟨cur, e, h8, h9, h10⟩ := h7
      exact ⟨cur, e, by rw [hw g (by unfold OwnAt; rw [hx]; exact ⟨cap, sz, h4⟩)]; exact h8, h9, fun i y hy j c hc => (h10 i y hy j c hc).mono hM (Th.le_refl _)⟩
  | cells cs =>
    obtain ⟨h0, g, cur, e, h1, h2, h3⟩ := h
    exact ⟨h0, g, cur, e, h1, by rw [hw g (by unfold OwnAt; rw [hx]; exact h1)]; exact h2, h3.mono hM (Th.le_refl _)⟩
  | map es =>
    obtain ⟨h0, g, us, clock, h1, h2, h3, hbn⟩ := h
    refine ⟨h0, g, us, clock, h1, by rw [hw g (by unfold OwnAt; rw [hx]; exact h1)]; exact h2, ⟨h3.1, fun i k v hk => ?_⟩, hbn⟩
    obtain ⟨e, h4, h5, h6⟩ := h3.2 i k v hk
    exact ⟨e, h4, h5.mono hM (Th.le_refl _), h6.mono hM (Th.le_refl _)⟩

/-- The same small heap over a later world in which what it owns, and what is fixed, stands as it was. -/
theorem StR.keep {w w' : World} {M : Mem} {θ : Th} {σ : St} (h : StR w M θ σ)
    (hb : ∀ g, Own θ σ g → w'.heap[g]? = w.heap[g]?) (hm : ∀ g o v, M g o = some v → w'.heap[g]? = w.heap[g]?) : StR w' M θ σ where
  mem := fun g o v e => by
    have := h.mem g o v e
    simpa [World.cell?, hm g o v e] using this
  ob := fun id x hx => (h.ob id x hx).keep M.le_refl hx fun g hg => hb g ⟨id, hg⟩
  dis := h.dis
  out := h.out
  far := h.far

end Go.Can
