/- The operations, fourth part: the small heap's objects. -/
import Derived.Test.YtgcfhcgnkohfkaaCanF
set_option linter.unusedSimpArgs false
set_option linter.unusedVariables false
namespace Go.Can
open Go Go.RowKit
section
variable {P : Program} {w : World} {M : Mem} {θ : Th} {σ : St} {π : Nat → Option Nat} {env : Env} {o : Oper} {a : Act}

theorem heap_new (w : World) (x : Obj) : (w.alloc x).heap[w.heap.size]? = some x := by show (w.heap.push _)[w.heap.size]? = _; simp

theorem set_ext {w' : World} {θ' : Th} {id : Nat} {x x' : Ob} (h : StR w M θ σ) (hx : σ[id]? = some x) (ht : θ.le θ')
    (hθ : ∀ j, j ≠ id → (∀ gen, θ'.tr j gen = θ.tr j gen) ∧ θ'.tc j = θ.tc j)
    (hw : ∀ k, k < w.heap.size → ¬ OwnAt θ σ id k → w'.heap[k]? = w.heap[k]?)
    (hown : ∀ g, OwnAt θ' (σ.set id x') id g → OwnAt θ σ id g ∨ w.heap.size ≤ g) (hob : ObR w' M θ' id x')
    (h1 : w'.os = w.os) (h2 : w'.tape = w.tape) (h3 : w'.output = w.output) (h4 : w.heap.size ≤ w'.heap.size) : Ext0 w M θ σ w' M θ' (σ.set id x') ∧ StR w' M θ' (σ.set id x') := by
  obtain ⟨q1, q2⟩ := h.set hx ht hθ hw hown hob
  exact ⟨⟨h1, h2, h3, h4, M.le_refl, ht, fun g hg ho _ => hw g hg (fun h5 => ho ⟨id, h5⟩), q2, fun _ _ e => by simp at e, fun _ _ _ e => .inl e⟩, q1⟩

def Th.setC (θ : Th) (id g : Nat) : Th := { θ with tc := fun j => if j = id then some g else θ.tc j }
def Th.setR (θ : Th) (id gen : Nat) (x : Option Nat × Nat × Nat) : Th := { θ with tr := fun j q => if j = id ∧ q = gen then some x else θ.tr j q }

theorem Th.le_setC {id g : Nat} (h : θ.tc id = none) : θ.le (θ.setC id g) :=
  ⟨fun _ _ _ e => e, fun j k e => by simp only [Th.setC]; split <;> simp_all⟩
theorem Th.le_setR {id gen : Nat} {x : Option Nat × Nat × Nat} (h : θ.tr id gen = none) : θ.le (θ.setR id gen x) :=
  ⟨fun j q y e => by
    simp only [Th.setR]
    by_cases h1 : j = id ∧ q = gen
    · rw [h1.1, h1.2] at e; rw [h] at e; cases e
    · rw [if_neg h1]; exact e, fun _ _ e => e⟩
theorem Th.setC_self (id g : Nat) : (θ.setC id g).tc id = some g := by simp [Th.setC]
theorem Th.setR_self (id gen : Nat) (x : Option Nat × Nat × Nat) : (θ.setR id gen x).tr id gen = some x := by simp [Th.setR]
theorem Th.setR_of {id gen q : Nat} {x y : Option Nat × Nat × Nat} (h : (θ.setR id gen x).tr id q = some y) : q = gen ∨ θ.tr id q = some y := by
  simp only [Th.setR] at h
  split at h
  · rename_i e; exact .inl e.2
  · exact .inr h
theorem Th.setC_ne {id g j : Nat} (h : j ≠ id) : (∀ gen, (θ.setC id g).tr j gen = θ.tr j gen) ∧ (θ.setC id g).tc j = θ.tc j := by simp [Th.setC, h]
theorem Th.setR_ne {id gen j : Nat} {x : Option Nat × Nat × Nat} (h : j ≠ id) : (∀ q, (θ.setR id gen x).tr j q = θ.tr j q) ∧ (θ.setR id gen x).tc j = θ.tc j := by simp [Th.setR, h]

theorem ownAt_set {θ : Th} {σ : St} {id g : Nat} {x : Ob} (hlt : id < σ.length) : OwnAt θ (σ.set id x) id g ↔ (match x with
    | .row _ xs => ∃ cap s, θ.tr id xs.length = some (some g, cap, s)
    | .cells _ | .map _ => θ.tc id = some g
    | .none => False) := by
  unfold OwnAt
  rw [List.getElem?_set_self hlt]
  cases x <;> exact Iff.rfl

theorem fresh_spec {nid : Nat} (h : fresh σ nid = true) : σ[nid]? = some .none := by
  unfold fresh at h
  split at h
  · assumption
  · cases h

/-- A new object of cells, of a map. -/
theorem new_cells {nid : Nat} {cs : List AV} {cur : Array Value} {e : TypeId} (hs : StR w M θ σ) (hn : fresh σ nid = true) (hc : CellsR M θ cs cur) :
    Ext0 w M θ σ (w.alloc (.cells cur e)) M (θ.setC nid w.heap.size) (σ.set nid (.cells cs)) ∧ StR (w.alloc (.cells cur e)) M (θ.setC nid w.heap.size) (σ.set nid (.cells cs)) := by
  have hx := fresh_spec hn
  have hlt : nid < σ.length := (List.getElem?_eq_some_iff.1 hx).1
  have h0 := hs.ob _ _ hx
  have hle := Th.le_setC (g := w.heap.size) h0.2
  refine set_ext hs hx hle (fun j hj => Th.setC_ne hj) (fun k hk _ => Below.heap_alloc w _ k hk) (fun g hg => ?_) ?_ rfl rfl rfl (by simp)
  · rw [ownAt_set hlt, Th.setC_self] at hg
    cases hg; exact .inr (Nat.le_refl _)
  · exact ⟨h0.1, w.heap.size, cur, e, Th.setC_self _ _, heap_new w _, hc.mono M.le_refl hle⟩

theorem new_map {nid : Nat} (hs : StR w M θ σ) (hn : fresh σ nid = true) :
    Ext0 w M θ σ (w.alloc (.map #[] 0)) M (θ.setC nid w.heap.size) (σ.set nid (.map [])) ∧ StR (w.alloc (.map #[] 0)) M (θ.setC nid w.heap.size) (σ.set nid (.map [])) := by
  have hx := fresh_spec hn
  have hlt : nid < σ.length := (List.getElem?_eq_some_iff.1 hx).1
  have h0 := hs.ob _ _ hx
  have hle := Th.le_setC (g := w.heap.size) h0.2
  refine set_ext hs hx hle (fun j hj => Th.setC_ne hj) (fun k hk _ => Below.heap_alloc w _ k hk) (fun g hg => ?_) ?_ rfl rfl rfl (by simp)
  · rw [ownAt_set hlt, Th.setC_self] at hg
    cases hg; exact .inr (Nat.le_refl _)
  · exact ⟨h0.1, w.heap.size, #[], 0, Th.setC_self _ _, heap_new w _, ⟨rfl, by simp⟩, ⟨by simp, by simp⟩⟩

theorem op_alloc_heap {t : TypeId} {nid : Nat} {z : AV} (hs : StR w M θ σ) (hf : FrR w M θ σ π env a.tmps) (hd : okDst env o.dst = true) (ho : o.op = .alloc t) (hz : zeroOf P t = some z) (hn : fresh σ nid = true) :
    OpS P w M θ σ π o a env (σ.set nid (.cells z.cells)) (.val (.ptr nid 0)) := by
  unfold zeroOf at hz
  cases hi : P.info? t with
  | none => rw [hi] at hz; cases hz
  | some i =>
    rw [hi] at hz
    cases hi2 : i.zero with
    | none => simp [hi2] at hz
    | some zv =>
      have hz' : ofV zv = some z := by simpa [hi2] using hz
      have hc := (ofV_sound hz' M θ).cells
      obtain ⟨q1, q2⟩ := new_cells (e := t) hs hn hc
      exact .goV (u := .pointer (some ⟨w.heap.size, 0, none⟩)) hf hd (by simp [execOp, ho, Instr.alloc, zeroValue, typeInfo, hi, hi2, newVar, newRow]) q1 q2 (Cell.ptr nid 0 _ (Th.setC_self _ _)).rep

theorem op_box_heap {t : TypeId} {nid : Nat} {x : Operand} {z : AV} (hs : StR w M θ σ) (hf : FrR w M θ σ π env a.tmps) (hd : okDst env o.dst = true) (ho : o.op = .box t x) (hz : lookV env x = some z) (hn : fresh σ nid = true) :
    OpS P w M θ σ π o a env (σ.set nid (.cells z.cells)) (.val (.ptr nid 0)) := by
  have hc := (lookV_sound hf hz).cells
  obtain ⟨q1, q2⟩ := new_cells (e := t) hs hn hc
  exact .goV (u := .pointer (some ⟨w.heap.size, 0, none⟩)) hf hd (by simp [execOp, ho, Instr.box, newVar, newRow]) q1 q2 (Cell.ptr nid 0 _ (Th.setC_self _ _)).rep

theorem lowMapOk_spec {t k e : TypeId} (h : lowMapOk P t = some (k, e)) : P.underlying t = some (.map k e) := by
  unfold lowMapOk at h
  split at h
  · rename_i h1; cases h; exact h1
  · cases h

theorem op_makeMap {t : TypeId} {nid : Nat} {r : Option Operand} {x : TypeId × TypeId} (hs : StR w M θ σ) (hf : FrR w M θ σ π env a.tmps) (hd : okDst env o.dst = true) (ho : o.op = .makeMap t r) (ht : lowMapOk P t = some x)
    (hr : r = none ∨ ∃ y k n, r = some y ∧ lookV env y = some (.int k n)) (hn : fresh σ nid = true) : OpS P w M θ σ π o a env (σ.set nid (.map [])) (.val (.map (some nid))) := by
  obtain ⟨q1, q2⟩ := new_map hs hn
  have h1 := lowMapOk_spec (k := x.1) (e := x.2) ht
  refine .goV (u := .map (some w.heap.size)) hf hd ?_ q1 q2 (Cell.mapS nid _ (Th.setC_self _ _)).rep
  rcases hr with rfl | ⟨y, k, n, rfl, hy⟩
  · simp [execOp, ho, Instr.makeMap]
  · have h2 := (lookV_sound hf hy).rep.int
    simp [execOp, ho, Instr.makeMap, h2, run_underlying h1, asInt, asIntOf]

/-- A row of 'n' zero values in a new block. -/
theorem op_makeSlice {t e : TypeId} {sz bytes nid : Nat} {l c : Operand} {n m : Int} {z : AV} (hs : StR w M θ σ) (hf : FrR w M θ σ π env a.tmps) (hd : okDst env o.dst = true) (ho : o.op = .makeSlice t l c)
    (ht : elemT P t = some (e, sz, bytes)) (hl : lookV env l = some (.int .i64 n)) (hc : lookV env c = some (.int .i64 m)) (hz : zeroOf P e = some z)
    (h0 : 0 ≤ n) (h1 : n ≤ m) (h2 : m * bytes ≤ 140737488355328) (h3 : m ≤ 140737488355328) (h4 : 0 < sz) (h5 : z.cells.length = sz) (hn : fresh σ nid = true) :
    OpS P w M θ σ π o a env (σ.set nid (.row sz (List.replicate n.toNat z))) (.val (.row sz nid n.toNat 0 n.toNat false)) := by
  obtain ⟨hu, i, hi, hi1, hi2⟩ := elemT_spec ht
  unfold zeroOf at hz
  rw [hi] at hz
  cases hi3 : i.zero with
  | none => simp [hi3] at hz
  | some zv =>
    have hz' : ofV zv = some z := by simpa [hi3] using hz
    have hcz := (ofV_sound hz' M θ).cells
    have hzs : zv.cells.size = sz := by rw [hcz.1, h5]
    have hx := fresh_spec hn
    have hlt : nid < σ.length := (List.getElem?_eq_some_iff.1 hx).1
    have hob := hs.ob _ _ hx
    have hle := Th.le_setR (x := (some w.heap.size, m.toNat, sz)) (hob.1 n.toNat)
    have hrun := run_make (P := P) w t e i zv hu hi hi3 .i64 .i64 n m h0 h1 (by rw [hi2, Int.mul_comm]; omega) (by omega)
    have e1 := (lookV_sound hf hl).rep.int
    have e2 := (lookV_sound hf hc).rep.int
    have key : Ext0 w M θ σ (w.alloc (.cells (madeCells zv.cells (m.toNat * i.size)) e)) M (θ.setR nid n.toNat (some w.heap.size, m.toNat, sz)) (σ.set nid (.row sz (List.replicate n.toNat z))) ∧
        StR (w.alloc (.cells (madeCells zv.cells (m.toNat * i.size)) e)) M (θ.setR nid n.toNat (some w.heap.size, m.toNat, sz)) (σ.set nid (.row sz (List.replicate n.toNat z))) := by
      refine set_ext hs hx hle (fun j hj => Th.setR_ne hj) (fun k hk _ => Below.heap_alloc w _ k hk) (fun g hg => ?_) ?_ rfl rfl rfl (by simp)
      · rw [ownAt_set hlt] at hg
        obtain ⟨cap, s, hg⟩ := hg
        simp only [List.length_replicate, Th.setR_self, Option.some.injEq, Prod.mk.injEq] at hg
        rw [← hg.1]; exact .inr (Nat.le_refl _)
      · refine ⟨hob.2, fun gen y hy => ?_, h4, fun y hy => ?_, some w.heap.size, m.toNat, ?_, ?_, ?_, madeCells zv.cells (m.toNat * i.size), e, heap_new w _, ?_, ?_⟩
        · rcases Th.setR_of hy with h | h
          · simp [h]
          · rw [hob.1] at h; cases h
        · obtain ⟨_, rfl⟩ := List.mem_replicate.1 hy; exact h5
        · simp [Th.setR_self]
        · simp; omega
        · simp only [maxLen]; omega
        · rw [size_madeCells, hi1]
        · intro k y hy j c hj
          have hk : k < n.toNat := by simpa using (List.getElem?_eq_some_iff.1 hy).1
          rw [List.getElem?_replicate, if_pos hk] at hy
          cases hy
          have hj' : j < sz := by rw [← h5]; exact (List.getElem?_eq_some_iff.1 hj).1
          have hb : k * sz + j < m.toNat * i.size := by
            rw [hi1]
            have h6 : k * sz + j < (k + 1) * sz := by rw [Nat.add_mul]; omega
            exact Nat.lt_of_lt_of_le h6 (Nat.mul_le_mul_right _ (by omega))
          have e3 : (madeCells zv.cells (m.toNat * i.size)).getD (k * sz + j) undef = zv.cells.getD j undef := by
            have : (k * sz + j) % sz = j := by rw [Nat.mul_comm, Nat.mul_add_mod]; exact Nat.mod_eq_of_lt hj'
            have hjz : j < zv.cells.size := by omega
            simp only [madeCells, Array.getD_eq_getD_getElem?, Array.getElem?_map]
            rw [Array.getElem?_range, if_pos hb]
            simp only [Option.map_some, Option.getD_some, hzs, this]
            rw [getElem!_pos zv.cells j hjz]
            simp [hjz]
          rw [e3]
          exact (hcz.2 j c hj).mono M.le_refl hle
    refine .goV (u := .slice (some ⟨w.heap.size, 0, none⟩) n.toNat m.toNat) hf hd (by simp only [execOp, ho, e1, e2]; rw [Sem.run_bind, hrun]; rfl) key.1 key.2 ?_
    refine (Cell.row sz nid n.toNat 0 n.toNat false _ m.toNat m.toNat (some w.heap.size) (Th.setR_self _ _ _) (by omega) (by omega) (by simp only [maxLen]; omega) (by simp) (by simp) (.inr ⟨_, rfl, ?_⟩)).rep
    simp

/-! Stores into objects. -/

theorem op_store_ptr {t : TypeId} {x y : Operand} {id off : Nat} {v : AV} {cs cs' : List AV} (hs : StR w M θ σ) (hf : FrR w M θ σ π env a.tmps) (hd : okDst env o.dst = true) (ho : o.op = .store t x y)
    (hx : look env x = .val (.ptr id off)) (hy : lookV env y = some v) (ht : szOf P t = some v.cells.length) (hv : σ[id]? = some (.cells cs)) (hsp : splice cs off v.cells = some cs') :
    OpS P w M θ σ π o a env (σ.set id (.cells cs')) .und := by
  have h0 := (look_sound hf x).1
  rw [hx] at h0
  obtain ⟨g, hg, hxv⟩ := Rep.ptr h0
  have hr := (lookV_sound hf hy).cells
  have hlt : id < σ.length := (List.getElem?_eq_some_iff.1 hv).1
  obtain ⟨h1, g', cur, e, h2, h3, h4⟩ := hs.ob _ _ hv
  rw [hg] at h2; cases h2
  obtain ⟨hle, _, _⟩ := splice_spec hsp
  have hst := storeVar_run (P := P) (M := M) (θ := θ) (t := t) (o1 := off) h3 hr ht (by rw [h4.1]; exact hle)
  obtain ⟨q1, q2⟩ := set_ext (w' := w.setRow g (cur.toList.take off ++ (a.eval y).cells.toList ++ cur.toList.drop (off + (a.eval y).cells.toList.length)).toArray) (x' := .cells cs') hs hv θ.le_refl (fun j _ => ⟨fun _ => rfl, rfl⟩)
    (fun k _ hk => setRow_other w g k _ (fun e => hk (by unfold OwnAt; rw [hv, e]; exact hg))) (fun k hk => .inl (by rw [ownAt_set hlt] at hk; unfold OwnAt; rw [hv]; exact hk))
    ⟨h1, g, _, e, hg, setRow_heap w g cur _ e _ h3, splice_cells hsp h4 hr⟩ rfl rfl rfl (by simp)
  exact .goU hf hd (by simp [execOp, ho, hxv, Instr.storeAt, Instr.sureAddr, hst]) q1 q2

theorem setCells_spec {x x' : AV} {off : Nat} {vs : List AV} {us : Array Value} (h : setCells x off vs = some x') (hu : CellsR M θ vs us) : splice x.cells off vs = some x'.cells := by
  unfold setCells at h
  split at h
  · rename_i cs
    cases e : splice cs off vs with
    | none => rw [e] at h; cases h
    | some cs' => rw [e] at h; cases h; exact e
  · rename_i hx
    split at h
    · rename_i v
      cases h
      have h1 := hu.2 0 x' rfl
      have e1 : x.cells = [x] := by cases x <;> first | rfl | exact absurd rfl (hx _)
      have e2 : x'.cells = [x'] := by cases x' <;> first | rfl | exact h1.not_agg.elim
      rw [e1, e2]; rfl
    · cases h

theorem row_set {sz k off : Nat} {xs : List AV} {x x' : AV} {vs : List AV} {cur us : Array Value} {cap : Nat} (hr : RowR M θ sz xs cur) (hz : ∀ y ∈ xs, y.cells.length = sz) (hx : xs[k]? = some x)
    (hsp : splice x.cells off vs = some x'.cells) (hu : CellsR M θ vs us) (hcs : cur.size = cap * sz) (hlc : xs.length ≤ cap) :
    RowR M θ sz (xs.set k x') (cur.toList.take (k * sz + off) ++ us.toList ++ cur.toList.drop (k * sz + off + us.toList.length)).toArray ∧ k * sz + off + vs.length ≤ cur.size ∧ ∀ y ∈ xs.set k x', y.cells.length = sz := by
  have hk : k < xs.length := (List.getElem?_eq_some_iff.1 hx).1
  obtain ⟨h1, h2, h3⟩ := splice_spec hsp
  have hxz := hz x (List.mem_of_getElem? hx)
  have hb : k * sz + off + vs.length ≤ cur.size := by
    rw [hcs]
    have h6 : k * sz + off + vs.length ≤ (k + 1) * sz := by rw [Nat.add_mul]; omega
    exact Nat.le_trans h6 (Nat.mul_le_mul_right _ (by omega))
  refine ⟨fun i y hy j c hj => ?_, hb, fun y hy => ?_⟩
  · have hul : us.toList.length = vs.length := by simpa using hu.1
    have e : ((cur.toList.take (k * sz + off) ++ us.toList ++ cur.toList.drop (k * sz + off + us.toList.length)).toArray).getD (i * sz + j) undef =
        if i * sz + j < k * sz + off then cur.getD (i * sz + j) undef else if i * sz + j < k * sz + off + vs.length then us.getD (i * sz + j - (k * sz + off)) undef else cur.getD (i * sz + j) undef := by
      simp only [Array.getD_eq_getD_getElem?, List.getElem?_toArray]
      rw [getElem?_splice (by rw [hul, Array.length_toList]; exact hb), hul]
      split
      · simp
      · split <;> simp
    rw [e]
    by_cases hik : i = k
    · subst hik
      rw [List.getElem?_set_self hk] at hy; cases hy
      rw [h2, getElem?_splice h1] at hj
      split at hj
      · rw [if_pos (by omega)]; exact hr i x hx j c hj
      · split at hj
        · rw [if_neg (by omega), if_pos (by omega)]
          have : i * sz + j - (i * sz + off) = j - off := by omega
          rw [this]; exact hu.2 _ c hj
        · rw [if_neg (by omega), if_neg (by omega)]; exact hr i x hx j c hj
    · rw [List.getElem?_set_ne (Ne.symm hik)] at hy
      have hj' : j < sz := by rw [← hz y (List.mem_of_getElem? hy)]; exact (List.getElem?_eq_some_iff.1 hj).1
      have hd : i * sz + j < k * sz ∨ (k + 1) * sz ≤ i * sz + j := by
        rcases Nat.lt_or_gt_of_ne hik with h | h
        · left
          have : (i + 1) * sz ≤ k * sz := Nat.mul_le_mul_right _ h
          rw [Nat.add_mul] at this; omega
        · right
          exact Nat.le_trans (Nat.mul_le_mul_right _ h) (by omega)
      have hs' : (k + 1) * sz = k * sz + sz := by rw [Nat.add_mul]; omega
      rw [show (if i * sz + j < k * sz + off then cur.getD (i * sz + j) undef else if i * sz + j < k * sz + off + vs.length then us.getD (i * sz + j - (k * sz + off)) undef else cur.getD (i * sz + j) undef) = cur.getD (i * sz + j) undef by
        split
        · rfl
        · rw [if_neg (by omega)]]
      exact hr i y hy j c hj
  · rcases List.mem_or_eq_of_mem_set hy with h | h
    · exact hz y h
    · rw [h, h3]; exact hxz

theorem op_store_elm {t : TypeId} {x y : Operand} {sz id gen ro len i off : Nat} {lim : Bool} {v : AV} {s2 : Nat} {xs : List AV} {z z' : AV} (hs : StR w M θ σ) (hf : FrR w M θ σ π env a.tmps) (hd : okDst env o.dst = true) (ho : o.op = .store t x y)
    (hx : look env x = .val (.elm (.row sz id gen ro len lim) sz i off)) (hy : lookV env y = some v) (ht : szOf P t = some v.cells.length) (hv : σ[id]? = some (.row s2 xs)) (hgen : gen = xs.length) (hi : i < len)
    (hz : xs[ro + i]? = some z) (hsp : setCells z off v.cells = some z') : OpS P w M θ σ π o a env (σ.set id (.row sz (xs.set (ro + i) z'))) .und := by
  have h0 := (look_sound hf x).1
  rw [hx] at h0
  have hr := (lookV_sound hf hy).cells
  have hlt : id < σ.length := (List.getElem?_eq_some_iff.1 hv).1
  generalize hev : a.eval x = u at h0
  cases h0 with
  | elm _ _ _ _ g o1 len' cap' hc hi' =>
    generalize hsv : Value.slice (some ⟨g, o1, none⟩) len' cap' = sv at hc
    cases hc with
    | row _ _ _ _ _ _ a0 cap0 cap1 b0 htr h1 hg hm hb hcap ha =>
      cases hsv
      subst hgen
      obtain ⟨k1, k2, k3, k4, b, cap, k5, k6, k7, k8⟩ := hs.ob _ _ hv
      rw [k5] at htr
      simp only [Option.some.injEq, Prod.mk.injEq] at htr
      obtain ⟨rfl, rfl, rfl⟩ := htr
      rcases ha with ha | ⟨g', hb', ha⟩
      · subst hcap
        split at ha <;> omega
      · subst hb'
        cases ha
        obtain ⟨cur, e, k9, k10, k11⟩ := k8
        obtain ⟨m1, m2, m3⟩ := row_set k11 k4 hz (setCells_spec hsp hr) hr k10 k6
        have e1 : ro * s2 + (i * s2 + off) = (ro + i) * s2 + off := by rw [Nat.add_mul]; omega
        have hst := storeVar_run (P := P) (M := M) (θ := θ) (t := t) (o1 := (ro + i) * s2 + off) k9 hr ht m2
        obtain ⟨q1, q2⟩ := set_ext (w' := w.setRow g (cur.toList.take ((ro + i) * s2 + off) ++ (a.eval y).cells.toList ++ cur.toList.drop ((ro + i) * s2 + off + (a.eval y).cells.toList.length)).toArray)
          (x' := .row s2 (xs.set (ro + i) z')) hs hv θ.le_refl (fun j _ => ⟨fun _ => rfl, rfl⟩)
          (fun k _ hk => setRow_other w g k _ (fun e => hk (by unfold OwnAt; rw [hv, e]; exact ⟨_, _, k5⟩))) (fun k hk => .inl (by rw [ownAt_set hlt] at hk; unfold OwnAt; rw [hv]; simpa using hk))
          ⟨k1, by simpa using k2, k3, m3, some g, cap, by simpa using k5, by simpa using k6, k7, _, e, setRow_heap w g cur _ e _ k9, by
            have hul : (a.eval y).cells.toList.length = v.cells.length := by simpa using hr.1
            simp only [List.size_toArray, List.length_append, List.length_take, List.length_drop, Array.length_toList, hul] at m2 ⊢
            omega, m1⟩ rfl rfl rfl (by simp)
        exact .goU hf hd (by simp [execOp, ho, hev, Instr.storeAt, Instr.sureAddr, e1, hst]) q1 q2

end
end Go.Can
