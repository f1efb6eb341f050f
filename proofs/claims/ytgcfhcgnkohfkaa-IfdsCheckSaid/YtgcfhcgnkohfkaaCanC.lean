/- The model's world after a change of one object of the small heap; loads and stores. -/
import Derived.Test.YtgcfhcgnkohfkaaCanB
set_option linter.unusedSimpArgs false
set_option linter.unusedVariables false
namespace Go.Can
open Go

theorem OwnAt.set_ne {θ θ' : Th} {σ : St} {id j g : Nat} {x : Ob} (hj : j ≠ id) (hθ : (∀ gen, θ'.tr j gen = θ.tr j gen) ∧ θ'.tc j = θ.tc j) :
    OwnAt θ' (σ.set id x) j g ↔ OwnAt θ σ j g := by
  unfold OwnAt
  rw [List.getElem?_set_ne (Ne.symm hj)]
  cases σ[j]? with
  | none => exact Iff.rfl
  | some y => cases y <;> simp [hθ.1, hθ.2]

/-- One object is replaced; its block, if it has one afterwards, is the one that it had, or a new one. -/
theorem StR.set {w w' : World} {M : Mem} {θ θ' : Th} {σ : St} {id : Nat} {x x' : Ob} (h : StR w M θ σ) (hx : σ[id]? = some x) (ht : θ.le θ')
    (hθ : ∀ j, j ≠ id → (∀ gen, θ'.tr j gen = θ.tr j gen) ∧ θ'.tc j = θ.tc j)
    (hw : ∀ k, k < w.heap.size → ¬ OwnAt θ σ id k → w'.heap[k]? = w.heap[k]?)
    (hown : ∀ g, OwnAt θ' (σ.set id x') id g → OwnAt θ σ id g ∨ w.heap.size ≤ g) (hob : ObR w' M θ' id x') :
    StR w' M θ' (σ.set id x') ∧ ∀ g, Own θ' (σ.set id x') g → Own θ σ g ∨ w.heap.size ≤ g := by
  have hlt : id < σ.length := (List.getElem?_eq_some_iff.1 hx).1
  have hown' : ∀ j g, OwnAt θ' (σ.set id x') j g → OwnAt θ σ j g ∨ (j = id ∧ w.heap.size ≤ g) := by
    intro j g hj
    by_cases e : j = id
    · subst e
      rcases hown g hj with h1 | h1
      · exact .inl h1
      · exact .inr ⟨rfl, h1⟩
    · exact .inl ((OwnAt.set_ne e (hθ j e)).1 hj)
  have hmlt : ∀ g o v, M g o = some v → g < w.heap.size := fun g o v e => World.block_lt_of_cell? w _ (h.mem g o v e)
  have hmk : ∀ g o v, M g o = some v → w'.heap[g]? = w.heap[g]? := fun g o v e => hw g (hmlt g o v e) (fun ho => by have := h.out g ⟨id, ho⟩ o; rw [e] at this; cases this)
  refine ⟨⟨?_, ?_, ?_, ?_, ?_⟩, ?_⟩
  · intro g o v e
    have := h.mem g o v e
    simpa [World.cell?, hmk g o v e] using this
  · intro j y hy
    by_cases e : j = id
    · subst e
      rw [List.getElem?_set_self hlt] at hy
      cases hy
      exact hob
    · rw [List.getElem?_set_ne (Ne.symm e)] at hy
      have h0 := h.ob j y hy
      have hθj := hθ j e
      have h1 : ObR w' M θ j y := h0.keep M.le_refl hy fun g hg => hw g (hg.lt h) (fun ho => e (h.dis j id g hg ho))
      cases y with
      | none => exact ⟨fun gen => (hθj.1 gen).trans (h1.1 gen), hθj.2.trans h1.2⟩
      | row sz xs =>
        obtain ⟨a0, a1, a2, a3, b, cap, a4, a5, a6, a7⟩ := h1
        refine ⟨hθj.2.trans a0, fun gen z hz => a1 gen z (by rw [← hθj.1]; exact hz), a2, a3, b, cap, (hθj.1 _).trans a4, a5, a6, ?_⟩
        cases b with
        | none => exact a7
        | some g =>
          obtain ⟨cur, e1, a8, a9, a10⟩ := a7
          exact ⟨cur, e1, a8, a9, fun i z hz j c hc => (a10 i z hz j c hc).mono M.le_refl ht⟩
      | cells cs =>
        obtain ⟨a0, g, cur, e1, a1, a2, a3⟩ := h1
        exact ⟨fun gen => (hθj.1 gen).trans (a0 gen), g, cur, e1, hθj.2.trans a1, a2, a3.mono M.le_refl ht⟩
      | map es =>
        obtain ⟨a0, g, us, clock, a1, a2, a3, abn⟩ := h1
        refine ⟨fun gen => (hθj.1 gen).trans (a0 gen), g, us, clock, hθj.2.trans a1, a2, ⟨a3.1, fun i k v hk => ?_⟩, abn⟩
        obtain ⟨e2, a4, a5, a6⟩ := a3.2 i k v hk
        exact ⟨e2, a4, a5.mono M.le_refl ht, a6.mono M.le_refl ht⟩
  · intro i j g hi hj
    rcases hown' i g hi with h1 | ⟨h1, h1'⟩ <;> rcases hown' j g hj with h2 | ⟨h2, h2'⟩
    · exact h.dis i j g h1 h2
    · have := h1.lt h; omega
    · have := h2.lt h; omega
    · exact h1.trans h2.symm
  · rintro g ⟨j, hj⟩ o
    rcases hown' j g hj with h1 | ⟨_, h1⟩
    · exact h.out g ⟨j, h1⟩ o
    · cases e : M g o with
      | none => rfl
      | some v => have := hmlt g o v e; omega
  · intro j hj
    rw [List.length_set] at hj
    have hne : j ≠ id := by omega
    have hf := h.far j hj
    exact ⟨fun gen => ((hθ j hne).1 gen).trans (hf.1 gen), (hθ j hne).2.trans hf.2⟩
  · rintro g ⟨j, hj⟩
    rcases hown' j g hj with h1 | ⟨_, h1⟩
    · exact .inl ⟨j, h1⟩
    · exact .inr h1

theorem StR.none {w : World} {M : Mem} {θ : Th} {σ : St} (h : StR w M θ σ) (n : Nat) : StR w M θ (σ ++ List.replicate n .none) ∧ ∀ g, Own θ (σ ++ List.replicate n .none) g ↔ Own θ σ g := by
  have key : ∀ i g, OwnAt θ (σ ++ List.replicate n .none) i g ↔ OwnAt θ σ i g := by
    intro i g
    unfold OwnAt
    by_cases hi : i < σ.length
    · rw [List.getElem?_append_left hi]
    · rw [List.getElem?_append_right (by omega), List.getElem?_replicate]
      have : σ[i]? = Option.none := by simp; omega
      rw [this]
      split <;> simp_all
  refine ⟨⟨h.mem, ?_, fun i j g hi hj => h.dis i j g ((key i g).1 hi) ((key j g).1 hj), fun g ⟨j, hj⟩ o => h.out g ⟨j, (key j g).1 hj⟩ o, fun id hid => h.far id (by simp at hid; omega)⟩, fun g => ⟨fun ⟨j, hj⟩ => ⟨j, (key j g).1 hj⟩, fun ⟨j, hj⟩ => ⟨j, (key j g).2 hj⟩⟩⟩
  intro id x hx
  by_cases hi : id < σ.length
  · rw [List.getElem?_append_left hi] at hx
    exact h.ob id x hx
  · rw [List.getElem?_append_right (by omega), List.getElem?_replicate] at hx
    split at hx
    · cases hx; exact h.far id (by omega)
    · cases hx

/-- The calls' own form of 'Ext': no frame. -/
abbrev Ext0 (w : World) (M : Mem) (θ : Th) (σ : St) (w' : World) (M' : Mem) (θ' : Th) (σ' : St) : Prop := Ext w M θ σ (fun _ => none) w' M' θ' σ' (fun _ => none)

theorem Ext.lift {w w' : World} {M M' : Mem} {θ θ' : Th} {σ σ' : St} (h : Ext0 w M θ σ w' M' θ' σ') (π : Nat → Option Nat) : Ext w M θ σ π w' M' θ' σ' π :=
  ⟨h.os, h.tape, h.output, h.size, h.m, h.t, fun g h1 h2 _ => h.block g h1 h2 (fun _ => by simp), h.own, fun s g hs => .inl ⟨s, hs⟩, h.dom⟩

theorem SlotR.mono {w w' : World} {M M' : Mem} {θ θ' : Th} {π : Nat → Option Nat} {s : Nat} {sl : Slot} {u : Value} (hM : M.le M') (ht : θ.le θ')
    (hw : ∀ g, π s = some g → w'.heap[g]? = w.heap[g]?) (h : SlotR w M θ π s sl u) : SlotR w' M' θ' π s sl u := by
  cases sl with
  | val v => exact Rep.mono hM ht h
  | var cs =>
    obtain ⟨g, cur, e, h1, h2, h3, h4⟩ := h
    exact ⟨g, cur, e, h1, h2, (hw g h1).trans h3, h4.mono hM ht⟩
  | plc t off => exact h
  | und => exact h
  | top => exact h

theorem FrR.lt {w : World} {M : Mem} {θ : Th} {σ : St} {π : Nat → Option Nat} {env : Env} {tmps : Array Value} (h : FrR w M θ σ π env tmps) {s g : Nat} (hs : π s = some g) : g < w.heap.size := by
  obtain ⟨cs, hc⟩ := h.dom s g hs
  obtain ⟨g', cur, e, h1, _, h3, _⟩ := h.slot s _ hc
  rw [hs] at h1; cases h1
  exact (Array.getElem?_eq_some_iff.1 h3).1

/-- A call, or an operation that touches no variable, leaves the frame as it was. -/
theorem FrR.ext {w w' : World} {M M' : Mem} {θ θ' : Th} {σ σ' : St} {π : Nat → Option Nat} {env : Env} {tmps : Array Value} (h : FrR w M θ σ π env tmps) (e : Ext0 w M θ σ w' M' θ' σ') : FrR w' M' θ' σ' π env tmps := by
  have hk : ∀ s g, π s = some g → w'.heap[g]? = w.heap[g]? := fun s g hs => e.block g (h.lt hs) (h.out s g hs).2 (fun _ => by simp)
  refine ⟨h.size, fun s sl hs => (h.slot s sl hs).mono e.m e.t (hk s), h.dom, h.inj, fun s g hs => ⟨fun o => ?_, fun ho => ?_⟩⟩
  · cases hm : M' g o with
    | none => rfl
    | some v =>
      rcases e.dom g o v hm with h1 | h1 | h1
      · have := (h.out s g hs).1 o; rw [h1] at this; cases this
      · have := h.lt hs; omega
      · exact absurd h1 (h.out s g hs).2
  · rcases e.own g ho with h1 | h1
    · exact (h.out s g hs).2 h1
    · have := h.lt hs; omega

/-- A slot that is no variable takes a value that is none. -/
theorem FrR.put {w : World} {M : Mem} {θ : Th} {σ : St} {π : Nat → Option Nat} {env : Env} {a : Act} (h : FrR w M θ σ π env a.tmps) (d : Option Tmp) (hd : okDst env d = true) {sl : Slot} (hsl : ∀ cs, sl ≠ .var cs) {u : Value}
    (hu : ∀ s, SlotR w M θ π s sl u) : FrR w M θ σ π (putA env d sl) (a.put d u).tmps := by
  cases d with
  | none => exact h
  | some d =>
    simp only [okDst] at hd
    have hnv : ∀ cs, env[d]? ≠ some (.var cs) := fun cs e => by rw [e] at hd; cases hd
    have hlt : d < env.length := by
      refine Decidable.byContradiction fun hlt => ?_
      have : env[d]? = none := List.getElem?_eq_none (Nat.le_of_not_lt hlt)
      rw [this] at hd; cases hd
    simp only [putA, Act.put]
    refine ⟨by simp [h.size], fun s sl' hs => ?_, fun s g hs => ?_, h.inj, h.out⟩
    · by_cases e : s = d
      · subst e
        rw [List.getElem?_set_self hlt] at hs
        cases hs
        have hl : s < a.tmps.size := by rw [h.size]; exact hlt
        have he : (a.tmps.setIfInBounds s u).getD s undef = u := by simp [Array.getD_eq_getD_getElem?, hl]
        rw [he]
        exact hu s
      · rw [List.getElem?_set_ne (Ne.symm e)] at hs
        have := h.slot s sl' hs
        have he : (a.tmps.setIfInBounds d u).getD s undef = a.tmps.getD s undef := by simp [Array.getD_eq_getD_getElem?, Array.getElem?_setIfInBounds, Ne.symm e]
        rwa [he]
    · obtain ⟨cs, hc⟩ := h.dom s g hs
      refine ⟨cs, ?_⟩
      rw [List.getElem?_set_ne (fun e => hnv cs (by rw [e]; exact hc))]
      exact hc

theorem FrR.putV {w : World} {M : Mem} {θ : Th} {σ : St} {π : Nat → Option Nat} {env : Env} {a : Act} (h : FrR w M θ σ π env a.tmps) (d : Option Tmp) (hd : okDst env d = true) {v : AV} {u : Value}
    (hu : Rep M θ v u) : FrR w M θ σ π (putA env d (.val v)) (a.put d u).tmps := h.put d hd (by simp) (fun _ => hu)

/-! Constants and operands. -/

theorem ofC_sound {v : Value} {a : AV} (h : ofC v = some a) (M : Mem) (θ : Th) : Cell M θ a v := by
  unfold ofC at h
  split at h <;> cases h
  · exact .bool _
  · exact .int _ _
  · exact .str _
  · exact .nilp
  · exact .list true 0 [] none 0 (fun _ _ => undef) (Nat.le_refl _) (by simp [maxLen]) (fun _ => rfl) (by simp) (by simp) (by simp)
  · exact .mapN
  · exact .nilf
  · exact .nili

theorem ofCs_sound : ∀ {vs : List Value} {as : List AV}, ofCs vs = some as → ∀ (M : Mem) (θ : Th), CellsR M θ as vs.toArray
  | [], as, h, M, θ => by cases h; exact ⟨rfl, by simp⟩
  | v :: vs, as, h, M, θ => by
    unfold ofCs at h
    split at h
    · rename_i a as' h1 h2
      cases h
      have ih := ofCs_sound h2 M θ
      refine ⟨by have := ih.1; simp at this ⊢; exact this, fun i c hc => ?_⟩
      cases i with
      | zero => simp at hc; subst hc; simpa using ofC_sound h1 M θ
      | succ i => simp at hc; simpa [Array.getD_eq_getD_getElem?] using ih.2 i c hc
    · cases h

theorem ofV_sound {v : Value} {a : AV} (h : ofV v = some a) (M : Mem) (θ : Th) : RepA M θ a v := by
  unfold ofV at h
  split at h
  · rename_i cs
    cases e : ofCs cs.toList with
    | none => rw [e] at h; cases h
    | some as =>
      rw [e] at h; cases h
      refine ⟨cs, rfl, ?_⟩
      simpa using ofCs_sound e M θ
  · exact (ofC_sound h M θ).repA

theorem look_sound {w : World} {M : Mem} {θ : Th} {σ : St} {π : Nat → Option Nat} {env : Env} {a : Act} (h : FrR w M θ σ π env a.tmps) (x : Operand) :
    SlotR w M θ π 0 (look env x) (a.eval x) ∧ ∀ cs, look env x ≠ .var cs := by
  cases x with
  | tmp t =>
    simp only [look, Act.eval]
    cases e : env[t]? with
    | none => exact ⟨trivial, by simp⟩
    | some s =>
      have := h.slot t s e
      cases s with
      | var cs =>
        obtain ⟨g, cur, e, h1, h2, _⟩ := this
        exact ⟨⟨g, h1, h2⟩, by simp⟩
      | val v => exact ⟨this, by simp⟩
      | plc s off => exact ⟨this, by simp⟩
      | und => exact ⟨this, by simp⟩
      | top => exact ⟨trivial, by simp⟩
  | const v =>
    simp only [look, Act.eval]
    cases e : ofV v with
    | none => exact ⟨trivial, by simp⟩
    | some s => exact ⟨(ofV_sound e M θ).rep, by simp⟩
  | global g => exact ⟨trivial, by simp [look]⟩
  | func f => exact ⟨(Cell.fn f [] [] #[] #[] rfl rfl (by simp) (by simp)).rep, by simp [look]⟩

theorem lookV_sound {w : World} {M : Mem} {θ : Th} {σ : St} {π : Nat → Option Nat} {env : Env} {a : Act} (h : FrR w M θ σ π env a.tmps) {x : Operand} {v : AV} (hv : lookV env x = some v) : RepA M θ v (a.eval x) := by
  have := (look_sound h x).1
  unfold lookV Slot.v at hv
  split at hv
  · cases hv
  · rename_i v' hn e
    cases hv
    rw [e] at this
    exact Rep.repA this (fun vs e => hn vs (by rw [e]))
  · cases hv

theorem lookVs_sound {w : World} {M : Mem} {θ : Th} {σ : St} {π : Nat → Option Nat} {env : Env} {a : Act} (h : FrR w M θ σ π env a.tmps) : ∀ {xs : List Operand} {vs : List AV}, lookVs env xs = some vs →
    vs.length = xs.length ∧ ∀ (i : Nat) (v : AV) (x : Operand), vs[i]? = some v → xs[i]? = some x → RepA M θ v (a.eval x)
  | [], vs, e => by cases e; simp
  | x :: xs, vs, e => by
    unfold lookVs at e
    split at e
    · rename_i v vs' h1 h2
      cases e
      have ih := lookVs_sound h h2
      refine ⟨by simp [ih.1], fun i v' x' hv hx => ?_⟩
      cases i with
      | zero => simp at hv hx; subst hv; subst hx; exact lookV_sound h h1
      | succ i => simp at hv hx; exact ih.2 i v' x' hv hx
    · cases e

/-! What a value of the evaluator's stands for. -/
theorem Rep.int {M : Mem} {θ : Th} {k : IntKind} {n : Int} {u : Value} (h : Rep M θ (.int k n) u) : u = .int k n := by cases h; rfl
theorem Rep.bool {M : Mem} {θ : Th} {b : Bool} {u : Value} (h : Rep M θ (.bool b) u) : u = .bool b := by cases h; rfl
theorem Rep.str {M : Mem} {θ : Th} {b : ByteArray} {u : Value} (h : Rep M θ (.str b) u) : u = .string b := by cases h; rfl
theorem Rep.nilp {M : Mem} {θ : Th} {u : Value} (h : Rep M θ .nilp u) : u = .pointer none := by cases h; rfl
theorem Rep.agg {M : Mem} {θ : Th} {cs : List AV} {u : Value} (h : Rep M θ (.agg cs) u) : ∃ us, u = .agg us ∧ CellsR M θ cs us := h
theorem Rep.tup {M : Mem} {θ : Th} {cs : List AV} {u : Value} (h : Rep M θ (.tup cs) u) : ∃ us : Array Value, u = .tuple us ∧ us.size = cs.length ∧ ∀ i c, cs[i]? = some c → RepA M θ c (us.getD i undef) := h
theorem Rep.list {M : Mem} {θ : Th} {f : Bool} {sz : Nat} {xs : List AV} {u : Value} (h : Rep M θ (.list f sz xs) u) : ∃ a cap, u = .slice a xs.length cap := by cases h; exact ⟨_, _, rfl⟩
theorem Rep.row {M : Mem} {θ : Th} {sz id gen off len : Nat} {lim : Bool} {u : Value} (h : Rep M θ (.row sz id gen off len lim) u) : ∃ a cap, u = .slice a len cap := by cases h; exact ⟨_, _, rfl⟩
theorem Rep.ptr {M : Mem} {θ : Th} {id off : Nat} {u : Value} (h : Rep M θ (.ptr id off) u) : ∃ g, θ.tc id = some g ∧ u = .pointer (some ⟨g, off, none⟩) := by cases h; exact ⟨_, by assumption, rfl⟩
theorem Rep.mapN {M : Mem} {θ : Th} {u : Value} (h : Rep M θ (.map none) u) : u = .map none := by cases h; rfl
theorem Rep.mapS {M : Mem} {θ : Th} {id : Nat} {u : Value} (h : Rep M θ (.map (some id)) u) : ∃ g, θ.tc id = some g ∧ u = .map (some g) := by cases h; exact ⟨_, by assumption, rfl⟩
theorem Rep.fn {M : Mem} {θ : Th} {f : FuncId} {fi ca : List AV} {u : Value} (h : Rep M θ (.fn f fi ca) u) : ∃ fu cu : Array Value, u = .func (.func f) fu cu ∧ fu.size = fi.length ∧ cu.size = ca.length ∧
    (∀ i c, fi[i]? = some c → Cell M θ c (fu.getD i undef)) ∧ (∀ i c, ca[i]? = some c → Cell M θ c (cu.getD i undef)) := by
  cases h; exact ⟨_, _, rfl, by assumption, by assumption, by assumption, by assumption⟩

/-! Types. -/
section
variable {P : Program}

theorem szOf_run {t : TypeId} {n : Nat} (h : szOf P t = some n) (w : World) : (sizeOf t).run P w = .ok n w := by
  unfold szOf at h
  cases e : P.info? t with
  | none => rw [e] at h; cases h
  | some i => rw [e] at h; cases h; simp [sizeOf, typeInfo, e]

theorem aggT_run {t : TypeId} {b : Bool} (h : aggT P t = some b) (w : World) : (isAgg t).run P w = .ok b w := by
  unfold aggT at h
  unfold isAgg
  split at h
  · rename_i fs e; cases h; simp [run_underlying e]
  · rename_i n t' e; cases h; simp [run_underlying e]
  · rename_i d h1 h2 e
    cases h
    rw [Sem.run_bind, run_underlying e]
    cases d <;> simp_all
  · cases h

theorem elemT_spec {t e : TypeId} {s b : Nat} (h : elemT P t = some (e, s, b)) : P.underlying t = some (.slice e) ∧ ∃ i, P.info? e = some i ∧ i.size = s ∧ i.bytes = b := by
  unfold elemT at h
  split at h
  · rename_i e' he
    split at h
    · rename_i s' b' h1 h2
      cases h
      refine ⟨he, ?_⟩
      unfold szOf at h1; unfold byOf at h2
      cases hi : P.info? e with
      | none => rw [hi] at h1; cases h1
      | some i => rw [hi] at h1 h2; cases h1; cases h2; exact ⟨i, rfl, rfl, rfl⟩
    · cases h
  · cases h

/-! Loads. -/

theorem addr_add (g o n : Nat) : (⟨g, o, none⟩ : Addr).add n = ⟨g, o + n, none⟩ := by unfold Addr.add; split <;> simp_all

theorem partA_sound {M : Mem} {θ : Th} {w : World} {t : TypeId} {cs : List AV} {off : Nat} {v : AV} (hp : partA P t cs off = some v) {g o : Nat}
    (hc : ∀ j c, cs[j]? = some c → ∃ u, w.cell? ⟨g, o + j, none⟩ = some u ∧ Cell M θ c u) : ∃ u, (loadVar t ⟨g, o + off, none⟩).run P w = .ok u w ∧ RepA M θ v u := by
  unfold partA at hp
  split at hp
  · rename_i ha
    split at hp
    · rename_i n hn
      split at hp
      · rename_i hle
        cases hp
        let us : List Value := (List.range n).map fun j => (w.cell? ⟨g, o + off + j, none⟩).getD undef
        have hus : us.length = n := by simp [us]
        have hcell : ∀ j, j < n → ∃ c u, cs[off + j]? = some c ∧ w.cell? ⟨g, o + off + j, none⟩ = some u ∧ Cell M θ c u := by
          intro j hj
          have hlt : off + j < cs.length := by omega
          obtain ⟨u, h1, h2⟩ := hc (off + j) _ (List.getElem?_eq_getElem hlt)
          exact ⟨_, u, List.getElem?_eq_getElem hlt, by rw [← h1]; congr 2; omega, h2⟩
        have hl : (loadCells ⟨g, o + off, none⟩ us.length).run P w = .ok us.toArray w := by
          refine run_loadCells_list (P := P) w ⟨g, o + off, none⟩ us fun j u hu => ?_
          have hj : j < n := by rw [← hus]; exact (List.getElem?_eq_some_iff.1 hu).1
          obtain ⟨c, u', h1, h2, h3⟩ := hcell j hj
          simp only [us, List.getElem?_map, List.getElem?_range hj, Option.map_some, h2, Option.getD_some, Option.some.injEq] at hu
          rw [addr_add, h2, hu]
        refine ⟨.agg us.toArray, ?_, us.toArray, rfl, ?_⟩
        · rw [hus] at hl
          simp [loadVar, aggT_run ha, szOf_run hn, hl]
        · refine ⟨by simp [hus]; omega, fun i c hci => ?_⟩
          have hi : i < n := by
            have := (List.getElem?_eq_some_iff.1 hci).1
            simp at this; omega
          obtain ⟨c', u', h1, h2, h3⟩ := hcell i hi
          rw [List.getElem?_take_of_lt hi, List.getElem?_drop, h1] at hci
          cases hci
          have : us.toArray.getD i undef = u' := by
            simp only [Array.getD_eq_getD_getElem?, List.getElem?_toArray, us, List.getElem?_map, List.getElem?_range hi, Option.map_some, h2, Option.getD_some]
          rw [this]; exact h3
      · cases hp
    · cases hp
  · rename_i ha
    obtain ⟨u, h1, h2⟩ := hc off v hp
    refine ⟨u, ?_, h2.repA⟩
    simp [loadVar, aggT_run ha, h1]
  · cases hp

end
end Go.Can
