/- The functions that stand for themselves: slices.Clone and slices.Grow, out of the library's contracts. -/
import Derived.Test.YtjmljgajhkbciaaGreatIfdsP
import Derived.Shelf.Slices.Clone
import Derived.Shelf.Spec.SlicesGrow
set_option linter.unusedSimpArgs false
set_option linter.unusedVariables false
namespace Go.Can
open Go Go.Proofs Go.RowKit Go.Shelf

theorem app_keep {base : Nat} {σ σ' : St} (hb : base ≤ σ.length) (h : ∃ m, σ' = σ ++ m) : Keep base σ σ' := by
  obtain ⟨m, rfl⟩ := h
  exact Keep.app σ m hb

theorem app_sup {σ σ' : St} (h : ∃ m, σ' = σ ++ m) : Sup σ σ' := by
  obtain ⟨m, rfl⟩ := h
  exact fun k x hk _ => by rw [List.getElem?_append_left (List.getElem?_eq_some_iff.1 hk).1]; exact hk

theorem clone_app {args : List AV} {σ σ' : St} {base : Nat} {r : AV} (h : cloneP args σ base = some (r, σ')) : ∃ m, σ' = σ ++ m := by
  unfold cloneP at h
  split at h
  · cases h; exact ⟨[], by simp⟩
  · split at h
    · split at h
      · cases h; exact ⟨_, rfl⟩
      · cases h
    · cases h
  · cases h

theorem grow_app {args : List AV} {σ σ' : St} {base : Nat} {r : AV} (h : growP args σ base = some (r, σ')) : ∃ m, σ' = σ ++ m := by
  unfold growP at h
  split at h
  · split at h
    · cases h; exact ⟨[], by simp⟩
    · split at h
      · cases h; exact ⟨_, rfl⟩
      · cases h
  · cases h

theorem intsOf_eq : ∀ {xs : List AV} {l : List Int}, intsOf xs = some l → xs = l.map (AV.int .i64)
  | [], l, h => by cases h; rfl
  | x :: xs, l, h => by
    unfold intsOf at h
    split at h
    · rename_i e; cases e
    · rename_i q ys e
      cases e
      cases hi : intsOf xs with
      | none => rw [hi] at h; cases h
      | some m =>
        rw [hi] at h
        cases h
        rw [List.map_cons, ← intsOf_eq hi]
    · cases h

/-- A new object that is a row, in one of the new blocks. -/
theorem row_new2 {w w' : World} {M : Mem} {θ : Th} {σ : St} {sz cap g : Nat} {xs : List AV} (hs : StR w M θ σ) (h0 : 0 < sz) (hx : ∀ x ∈ xs, x.cells.length = sz) (hl : xs.length ≤ cap) (hm : cap ≤ maxLen)
    (hg : w.heap.size ≤ g) (hb : ∃ cur e, w'.heap[g]? = some (.cells cur e (0, 0)) ∧ cur.size = cap * sz ∧ RowR M θ sz xs cur) (hbel : Below w.heap.size w w') :
    Ext0 w M θ σ w' M (θ.setR σ.length xs.length (some g, cap, sz)) (σ ++ [.row sz xs]) ∧ StR w' M (θ.setR σ.length xs.length (some g, cap, sz)) (σ ++ [.row sz xs]) := by
  obtain ⟨n1, n2⟩ := hs.none 1
  have hlast : (σ ++ List.replicate 1 Ob.none)[σ.length]? = some .none := by simp
  have hob := n1.ob _ _ hlast
  have hle := Th.le_setR (x := (some g, cap, sz)) (hob.1 xs.length)
  obtain ⟨cur, e, h4, h5, h6⟩ := hb
  have key := set_ext (w' := w') (θ' := θ.setR σ.length xs.length (some g, cap, sz)) (x' := .row sz xs) n1 hlast hle (fun j hj => Th.setR_ne hj) (fun k hk' _ => hbel.block k hk') (fun g' hg' => by
      rw [ownAt_set (by simp)] at hg'
      obtain ⟨cap', s, hg'⟩ := hg'
      rw [Th.setR_self] at hg'
      simp only [Option.some.injEq, Prod.mk.injEq] at hg'
      obtain ⟨rfl, _, _⟩ := hg'
      exact .inr hg) ⟨hob.2, fun gen y hy => (by
        rcases Th.setR_of hy with h | h
        · omega
        · rw [hob.1] at h; cases h), h0, hx, some g, cap, Th.setR_self _ _ _, hl, hm, cur, e, h4, h5, h6.mono M.le_refl hle⟩ hbel.os hbel.tape hbel.output hbel.size
  rw [set_last] at key
  exact ⟨key.1.own_congr n2, key.2⟩

theorem below_ext {w w' : World} {M : Mem} {θ : Th} {σ : St} (hs : StR w M θ σ) (hb : Below w.heap.size w w') : Ext0 w M θ σ w' M θ σ ∧ StR w' M θ σ :=
  ⟨⟨hb.os, hb.tape, hb.output, hb.size, M.le_refl, θ.le_refl, fun k hk _ _ => hb.block k hk, fun k h => .inl h, fun s k h => (by cases h), fun k o v h => .inl h⟩,
   hs.keep (fun k hk => by
    obtain ⟨id, hk⟩ := hk
    exact hb.block k (hk.lt hs)) (fun k o v h => hb.block k (World.block_lt_of_cell? w _ (hs.mem k o v h)))⟩

def cloF : FuncId → FuncId
  | 15 => 61
  | f => f
def cloT : TypeId → TypeId
  | 22 => 30
  | t => t
def cloRen : Ren := ⟨cloF, cloT, fun g => g⟩

theorem zero_run {P : Program} {t : TypeId} {v : Value} (h : (P.info? t).bind (·.zero) = some v) (w : World) : (zeroValue t).run P w = .ok v w := by
  cases e : P.info? t with
  | none => rw [e] at h; cases h
  | some i =>
    rw [e] at h
    simp at h
    simp [zeroValue, typeInfo, e, h]

theorem cloLays : Lays2.n15 Tryz.prog cloRen where
  mixed := by kernel_rfl
  f15 := by kernel_rfl
  t3 := by kernel_rfl
  a3 := fun w => aggT_run (b := false) (by kernel_rfl) w
  z3 := fun w => szOf_run (by kernel_rfl) w
  v3 := zero_run (by kernel_rfl)
  t4 := by kernel_rfl
  a4 := fun w => aggT_run (b := false) (by kernel_rfl) w
  z4 := fun w => szOf_run (by kernel_rfl) w
  v4 := zero_run (by kernel_rfl)
  t22 := by kernel_rfl
  a22 := fun w => aggT_run (b := false) (by kernel_rfl) w
  z22 := fun w => szOf_run (by kernel_rfl) w
  v22 := zero_run (by kernel_rfl)
  i3 := by kernel_rfl

theorem nil_rep {M : Mem} {θ : Th} {a : Option Addr} {cap : Nat} (h : cap ≤ maxLen) : Rep M θ (.list false 0 []) (.slice a 0 cap) :=
  (Cell.list false 0 [] a cap (fun _ _ => undef) (Nat.zero_le _) h (fun h => by cases h) (fun x hx => by simp at hx) (fun h => absurd rfl h) (fun i x hx => by simp at hx)).rep

set_option maxRecDepth 100000 in
set_option maxHeartbeats 1000000 in
theorem clone_callR {args : List AV} {σ σ' : St} {base : Nat} {r : AV} (h : cloneP args σ base = some (r, σ')) : CallR Tryz.prog 61 args σ r σ' := by
  unfold cloneP at h
  split at h
  · cases h
    refine ⟨fun w vs => enters_call enters Tryz.func61 rfl w vs, fun w M θ vs hs ha => ?_⟩
    obtain ⟨u, rfl, hu⟩ := one_arg ha
    obtain ⟨a, cap, rfl⟩ := hu.rep.list
    cases a with
    | none =>
      refine (Any.slices_Clone_int_nil cloLays _ cap w).mono ?_
      rintro e w' ⟨rfl, rfl⟩
      exact ⟨_, M, θ, rfl, Ext.refl _ _ _ _ _, hs, nil_rep (Nat.zero_le _)⟩
    | some a =>
      refine (Any.slices_Clone_int_zero cloLays a cap w).mono ?_
      rintro e w' ⟨v', rfl, ⟨_, hown⟩, hne, hb⟩
      obtain ⟨q1, q2⟩ := below_ext hs hb
      rcases hown with ⟨hv, _⟩ | ⟨g, cap', cur, rfl, _, _, _, hm, _⟩
      · exact absurd hv hne
      · exact ⟨_, M, θ, rfl, q1, q2, nil_rep hm⟩
  · rename_i f x xs
    split at h
    · rename_i l hl
      split at h
      · rename_i hbig
        cases h
        have hxs := intsOf_eq hl
        have hlen : l ≠ [] := by
          rintro rfl
          simp at hxs
        rw [hxs]
        clear hl hxs
        refine ⟨fun w vs => enters_call enters Tryz.func61 rfl w vs, fun w M θ vs hs ha => ?_⟩
        obtain ⟨u, rfl, hu⟩ := one_arg ha
        have hu' : Cell M θ (.list f 1 (l.map (AV.int .i64))) u := hu
        cases hu' with
        | list _ _ _ a cap uu hc hm hf hsz hal hel =>
          obtain ⟨g, o, rfl, hM⟩ := hal (by simpa using hlen)
          have hcell : ∀ j, j < l.length → w.cell? ⟨g, o + j, none⟩ = some (.int .i64 (l.getD j 0)) := fun j hj => by
            have hj' : (l.map (AV.int .i64))[j]? = some (.int .i64 (l.getD j 0)) := by simp [hj]
            have h1 := hM j _ hj' 0 _ rfl
            have h2 := (hel j _ hj' 0 _ rfl).rep.int
            rw [h2, Nat.mul_one, Nat.add_zero] at h1
            exact hs.mem _ _ _ h1
          have hll : (l.map (AV.int .i64)).length = l.length := by simp
          rw [hll]
          refine (Any.slices_Clone_int cloLays g o l.length cap l w (Nat.le_refl _) hbig hcell).mono ?_
          rintro e w' ⟨v', rfl, ⟨_, hown⟩, hne, hb⟩
          rcases hown with ⟨hv, _⟩ | ⟨g', cap', cur, rfl, hg', hb', hn', hm', hcz, htk⟩
          · exact absurd hv hne
          have hrow : RowR M θ 1 (l.map (AV.int .i64)) cur := by
            intro i x hx j c hcj
            have hil : i < l.length := by have := (List.getElem?_eq_some_iff.1 hx).1; simpa using this
            have hx' : x = .int .i64 (l.getD i 0) := by
              have : (l.map (AV.int .i64))[i]? = some (.int .i64 (l.getD i 0)) := by simp [hil]
              rw [this] at hx; cases hx; rfl
            subst hx'
            cases j with
            | zero =>
              cases hcj
              have h1 : (cur.toList.take (l.length * 1))[i]? = some (.int .i64 (l.getD i 0)) := by rw [htk]; simp [hil]
              rw [List.getElem?_take_of_lt (by omega)] at h1
              have h2 : cur.getD (i * 1 + 0) undef = .int .i64 (l.getD i 0) := by
                rw [Array.getD_eq_getD_getElem?, Nat.mul_one, Nat.add_zero, ← Array.getElem?_toList, h1]; rfl
              rw [h2]
              exact .int _ _
            | succ j => cases hcj
          obtain ⟨q1, q2⟩ := row_new2 (cap := cap') (g := g') (xs := l.map (AV.int .i64)) hs (sz := 1) (by omega) (fun x hx => by
            obtain ⟨z, _, rfl⟩ := List.mem_map.1 hx
            rfl) (by rw [hll]; exact hn') hm' hg' ⟨cur, _, hb', hcz, hrow⟩ hb
          refine ⟨_, M, _, rfl, q1, q2, Cell.rep ?_⟩
          have := Cell.row (M := M) (θ := θ.setR σ.length (l.map (AV.int .i64)).length (some g', cap', 1)) 1 σ.length (l.map (AV.int .i64)).length 0 (l.map (AV.int .i64)).length false (some ⟨g', 0, none⟩) cap' cap' (some g') (Th.setR_self _ _ _) (by omega) (by rw [hll]; exact hn') hm' (by simp) (by simp) (.inr ⟨_, rfl, by simp⟩)
          rw [hll] at this
          rw [hll]
          exact this
      · cases h
    · cases h
  · cases h

def groF : FuncId → FuncId
  | 4 => 71
  | f => f
def groT : TypeId → TypeId
  | 22 => 30
  | 25 => 3
  | t => t
def groRen : Ren := ⟨groF, groT, fun g => g⟩

theorem groBears : Bears Tryz.prog 71 (Body8.n4 groRen) := ⟨Tryz.f71.name, by kernel_rfl, by kernel_rfl⟩

theorem groLays : Lays8.n4 Tryz.prog groRen where
  mixed := by kernel_rfl
  f4 := groBears
  t0 := by kernel_rfl
  a0 := fun w => aggT_run (b := false) (by kernel_rfl) w
  z0 := fun w => szOf_run (by kernel_rfl) w
  v0 := zero_run (by kernel_rfl)
  t3 := by kernel_rfl
  a3 := fun w => aggT_run (b := false) (by kernel_rfl) w
  z3 := fun w => szOf_run (by kernel_rfl) w
  v3 := zero_run (by kernel_rfl)
  t4 := by kernel_rfl
  a4 := fun w => aggT_run (b := false) (by kernel_rfl) w
  z4 := fun w => szOf_run (by kernel_rfl) w
  v4 := zero_run (by kernel_rfl)
  t9 := by kernel_rfl
  a9 := fun w => aggT_run (b := false) (by kernel_rfl) w
  z9 := fun w => szOf_run (by kernel_rfl) w
  v9 := zero_run (by kernel_rfl)
  t20 := by kernel_rfl
  a20 := fun w => aggT_run (b := false) (by kernel_rfl) w
  z20 := fun w => szOf_run (by kernel_rfl) w
  v20 := zero_run (by kernel_rfl)
  t22 := by kernel_rfl
  a22 := fun w => aggT_run (b := false) (by kernel_rfl) w
  z22 := fun w => szOf_run (by kernel_rfl) w
  v22 := zero_run (by kernel_rfl)

theorem two_args {M : Mem} {θ : Th} {a b : AV} {vs : Array Value} (h : ArgsR M θ [a, b] vs) : ∃ u v, vs = #[u, v] ∧ RepA M θ a u ∧ RepA M θ b v := by
  obtain ⟨h1, h2⟩ := h
  refine ⟨vs.getD 0 undef, vs.getD 1 undef, ?_, h2 0 a rfl, h2 1 b rfl⟩
  apply Array.ext
  · simpa using h1
  · intro j k1 k2
    simp at h1
    have : j = 0 ∨ j = 1 := by omega
    rcases this with rfl | rfl <;> simp [Array.getD_eq_getD_getElem?, h1]

set_option maxRecDepth 100000 in
set_option maxHeartbeats 1000000 in
theorem grow_callR {args : List AV} {σ σ' : St} {base : Nat} {r : AV} (h : growP args σ base = some (r, σ')) : CallR Tryz.prog 71 args σ r σ' := by
  unfold growP at h
  split at h
  · rename_i s n
    have ent : ∀ w vs, (callFunc 71 vs).run Tryz.prog w = .ok (.enter 71 vs) w := fun w vs => enters_call enters Tryz.func71 rfl w vs
    split at h
    · rename_i hn
      cases h
      subst hn
      refine ⟨ent, fun w M θ vs hs ha => ?_⟩
      obtain ⟨u, v, rfl, hu, hv⟩ := two_args ha
      have hv' := hv.rep.int
      subst hv'
      obtain ⟨a, cap, rfl⟩ := hu.rep.list
      have hc : Cell M θ (.list true s []) (.slice a 0 cap) := hu
      have hcap : cap = 0 ∧ cap ≤ maxLen := by
        cases hc with
        | list _ _ _ _ _ _ hc hm hf _ _ _ => exact ⟨by simpa using hf rfl, hm⟩
      obtain ⟨rfl, _⟩ := hcap
      refine (Any8.slices_Grow_room groLays a 0 0 0 w (Nat.le_refl _) (by omega) (by omega) (Nat.le_refl _)).mono ?_
      rintro e w' ⟨rfl, rfl⟩
      exact ⟨_, M, θ, rfl, Ext.refl _ _ _ _ _, hs, hu.rep⟩
    · split at h
      · rename_i hn0 hn
        cases h
        obtain ⟨m, rfl⟩ : ∃ m : Nat, n = m := ⟨n.toNat, by omega⟩
        rw [Int.toNat_natCast]
        refine ⟨ent, fun w M θ vs hs ha => ?_⟩
        obtain ⟨u, v, rfl, hu, hv⟩ := two_args ha
        have hv' := hv.rep.int
        subst hv'
        obtain ⟨a, cap, rfl⟩ := hu.rep.list
        have hc : Cell M θ (.list true s []) (.slice a 0 cap) := hu
        have hcap : cap = 0 := by
          cases hc with
          | list _ _ _ _ _ _ hc hm hf _ _ _ => simpa using hf rfl
        subst hcap
        obtain ⟨i0, hi0, hz0, hs0, hb0⟩ : ∃ i0, Tryz.prog.info? 3 = some i0 ∧ i0.zero = some (.int .i64 0) ∧ i0.size = 1 ∧ i0.bytes = 8 := by
          have h : (Tryz.prog.info? 3).map (fun i => (i.zero, i.size, i.bytes)) = some (some (.int .i64 0), 1, 8) := by kernel_rfl
          cases e : Tryz.prog.info? 3 with
          | none => rw [e] at h; cases h
          | some i => rw [e] at h; simp at h; exact ⟨i, rfl, h⟩
        refine (Any8.slices_Grow_grow groLays i0 (.int .i64 0) hi0 hz0 (by omega) a 0 0 m [] w (Nat.le_refl _) (by omega) (by rw [hb0]; omega) (by omega) (by simp) (fun _ => rfl) (fun a _ j v hj => by simp at hj)).mono ?_
        rintro e w' ⟨rfl, rfl⟩
        have ge := grownCap_ge w (0 + m) 0 (groRen.t 25)
        have le := grownCap_le_maxLen w (0 + m) 0 (groRen.t 25) (by simp only [maxLen]; omega)
        generalize grownCap w (0 + m) 0 (groRen.t 25) = G at *
        have hbel : Below w.heap.size w (w.drew.alloc (.cells (([] : List Value).toArray ++ Builtin.zeroCells (Value.int .i64 0).cells (0 + m - 0) ++ Builtin.zeroCells (Value.int .i64 0).cells (G - (0 + m))) (groRen.t 25))) := ((Below.refl _ w).drew).alloc (Nat.le_refl _) _
        have hsz : (([] : List Value).toArray ++ Builtin.zeroCells (Value.int .i64 0).cells (0 + m - 0) ++ Builtin.zeroCells (Value.int .i64 0).cells (G - (0 + m))).size = G * 1 := by
          simp only [Array.size_append, List.size_toArray, List.length_nil, List.length_cons, size_zeroCells, Value.cells]
          omega
        have hlr : (List.replicate m (AV.int .i64 0)).length = m := by simp
        obtain ⟨q1, q2⟩ := row_new2 (cap := G) (g := w.heap.size) (xs := List.replicate m (AV.int .i64 0)) hs (sz := 1) (by omega) (fun x hx => by rw [List.eq_of_mem_replicate hx]; rfl) (by rw [hlr]; omega) le (Nat.le_refl _) ⟨_, _, heap_new w.drew _, hsz, fun i x hx j c hcj => by
          have hil : i < m := by have := (List.getElem?_eq_some_iff.1 hx).1; simpa using this
          have hx' : x = .int .i64 0 := List.eq_of_mem_replicate (List.mem_of_getElem? hx)
          subst hx'
          cases j with
          | zero =>
            cases hcj
            generalize hA : (([] : List Value).toArray ++ Builtin.zeroCells (Value.int .i64 0).cells (0 + m - 0) ++ Builtin.zeroCells (Value.int .i64 0).cells (G - (0 + m))) = A at hsz
            have all : ∀ x ∈ A, x = Value.int .i64 0 := by
              rw [← hA]
              intro x hx
              simp [Builtin.zeroCells, Value.cells] at hx
              rcases hx with h | h
              · obtain ⟨k, _, h⟩ := h
                rw [Nat.mod_one] at h
                simpa using h.symm
              · obtain ⟨k, _, h⟩ := h
                rw [Nat.mod_one] at h
                simpa using h.symm
            have hi2 : i * 1 + 0 < A.size := by omega
            have e1 : A.getD (i * 1 + 0) undef = A[i * 1 + 0] := by
              rw [Array.getD_eq_getD_getElem?, Array.getElem?_eq_getElem hi2]; rfl
            rw [e1, all _ (Array.getElem_mem hi2)]
            exact .int _ _
          | succ j => cases hcj⟩ hbel
        refine ⟨_, M, _, rfl, q1, q2, Cell.rep ?_⟩
        have := Cell.row (M := M) (θ := θ.setR σ.length (List.replicate m (AV.int .i64 0)).length (some w.heap.size, G, 1)) 1 σ.length (List.replicate m (AV.int .i64 0)).length 0 0 false (some ⟨w.heap.size, 0, none⟩) G G (some w.heap.size) (Th.setR_self _ _ _) (by omega) (by rw [hlr]; omega) le (by simp) (by simp) (.inr ⟨_, rfl, by simp⟩)
        rw [hlr] at this ⊢
        exact this
      · cases h
  · cases h

end Go.Can
