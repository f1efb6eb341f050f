/- checkNodes of the closed examples' nodes: put together. -/
import Derived.Test.YtgcfhcgnkohfkaaIfdsX
set_option linter.unusedSimpArgs false
set_option linter.unusedVariables false
namespace Go.Can
open Go Go.Proofs Go.RowKit

def nodeA (n : Int × Int × Int) : AV := .agg [.int .i64 n.1, .int .i64 n.2.1, .int .i64 n.2.2]

theorem nodeOf_eq {x : AV} {n : Int × Int × Int} (h : nodeOf x = some n) : x = nodeA n := by
  unfold nodeOf at h
  split at h
  · cases h; rfl
  · cases h

theorem nodesOf_eq : ∀ {xs : List AV} {l : List (Int × Int × Int)}, nodesOf xs = some l → xs = l.map nodeA
  | [], l, h => by cases h; rfl
  | x :: xs, l, h => by
    unfold nodesOf at h
    split at h
    · rename_i a k h1 h2
      cases h
      rw [nodeOf_eq h1, nodesOf_eq h2]; rfl
    · cases h

theorem isOne_eq {xs : List AV} (h : isOne xs = true) : xs = one4 := by
  unfold isOne at h
  rw [beq_iff_eq] at h
  exact nodesOf_eq h

theorem nodeA_ints {n : Int × Int × Int} : ∀ c ∈ (nodeA n).cells, ∃ k q, c = AV.int k q := by
  intro c hc
  simp only [nodeA, AV.cells, List.mem_cons, List.not_mem_nil, or_false] at hc
  rcases hc with h | h | h
  · exact ⟨_, _, h⟩
  · exact ⟨_, _, h⟩
  · exact ⟨_, _, h⟩

theorem one4_ints : ∀ x ∈ one4, ∀ c ∈ x.cells, ∃ k n, c = AV.int k n := by
  intro x hx
  have e : one4 = [(0, 1, -1), (0, 2, 0), (0, 3, -1), (0, 4, -1)].map nodeA := rfl
  rw [e] at hx
  obtain ⟨n, _, rfl⟩ := List.mem_map.1 hx
  exact nodeA_ints

theorem list_th {M : Mem} {θ θ' : Th} {f : Bool} {u : Value} (h : Cell M θ (.list f 3 one4) u) : Cell M θ' (.list f 3 one4) u := by
  cases h with
  | list _ _ _ a cap uu hc hm hf hs ha he =>
    refine .list f 3 one4 a cap uu hc hm hf hs ha fun i x hx j c hj => ?_
    obtain ⟨k, n, rfl⟩ := one4_ints x (List.mem_of_getElem? hx) c (List.mem_of_getElem? hj)
    have := (he i x hx j _ hj).rep.int
    rw [this]
    exact .int k n

theorem good38_spec {o : Option (Out × S)} (h : good38 o = true) : ∃ env : Env, o = some (.normal, env, [.map [(.int .i64 0, .int .i64 3)]]) ∧ env.length = 84 ∧ env[3]? = some (.val (.map (some 0))) := by
  unfold good38 at h
  split at h
  · rename_i env σ
    simp only [Bool.and_eq_true, beq_iff_eq] at h
    obtain ⟨⟨h1, h2⟩, h3⟩ := h
    split at h3
    · rename_i a b
      simp only [Bool.and_eq_true, decide_eq_true_eq] at h3
      obtain ⟨rfl, rfl⟩ := h3
      refine ⟨env, rfl, h1, ?_⟩
      split at h2
      · rename_i i hi
        simp at h2; subst h2
        exact hi
      · cases h2
    · cases h3
  · cases h

theorem exec38 {w : World} {M : Mem} {c : Code} {s s' : S} {a : Act} {w1 : World} {Q : Exit → Act → World → Prop}
    (h : execC (regionA Try.prog cf0 (callN Try.prog cf0 20) 0 38) (fun c o e => maskA (fun t => (cf0.live 38 c o).contains t) 0 e) (fun b s => loopN b 20 s) c s = some (Out.normal, s'))
    (hr : RelS w M th0 [] 0 s a w1) (hQ : ∀ a' w', RelS w M th0 [] 0 s' a' w' → Q .normal a' w') : c.wp Try.prog Q a w1 := by
  have gd := callN_good (cf := cf0) mixed enters primOk0 20
  exact exec_sound (Rel := RelS w M th0 [] 0) (fun id ops d s s' a w Q h1 h2 h3 => region_sound mixed gd.ok gd.pure gd.grow h1 h2 h3) (fun c o e e' σ a w h1 h2 => RelS.mask (s := (e, σ)) h2 h1) (fun b s r h => ⟨20, h⟩) (fun s a w c t h1 h2 => cond_sound h1 h2) c h hr hQ

theorem c38_eq : Try.f38.body = some (.seq (fstOf c38) (.seq (fstOf (sndOf c38)) (.seq (fstOf (sndOf (sndOf c38))) b38))) := by kernel_rfl

set_option maxRecDepth 100000 in
set_option maxHeartbeats 4000000 in
theorem nodes_calls {w : World} {M : Mem} {f : Bool} {vs : Array Value} (hs0 : StR w M th0 []) (ha0 : ArgsR M th0 [.list f 3 one4] vs) :
    Calls Try.prog 38 vs w fun e w' => ∃ M' θ' σ', e = .returned (.int .i64 0) ∧ Ext0 w M th0 [] w' M' θ' σ' ∧ StR w' M' θ' σ' := by
  have hrun : good38 (run38 f) = true := by
    cases f with
    | false => exact run38f
    | true => exact run38t
  obtain ⟨env, hex, hlen, h3⟩ := good38_spec hrun
  unfold run38 a38 at hex
  obtain ⟨sa, x1, x2⟩ := seq_split hex
  obtain ⟨sb, x3, x4⟩ := seq_split x2
  have hsf : FrR w M th0 [] (fun _ => none) ([AV.list f 3 one4].map .val ++ List.replicate 83 .und) (vs ++ Array.replicate (Try.f38.ntmps - vs.size) undef) := start_frame 84 ha0
  refine calls_of_wp Try.func38 c38_eq ?_
  clear hex x2
  generalize fstOf c38 = R0 at *
  generalize fstOf (sndOf c38) = R1 at *
  generalize fstOf (sndOf (sndOf c38)) = A2 at *
  generalize hst : List.map Slot.val [AV.list f 3 one4] ++ List.replicate 83 Slot.und = env0 at *
  generalize vs ++ Array.replicate (Try.f38.ntmps - vs.size) undef = tm0 at *
  refine wp_seq (exec38 x1 ⟨rfl, Nat.le_refl _, M, th0, fun _ => none, Ext.refl _ _ _ _ _, hs0, hsf⟩ fun a1 w1 r1 => ?_)
  refine wp_seq (exec38 x3 r1 fun a2 w2 r2 => ?_)
  refine wp_seq (exec38 x4 r2 fun a3 w3 r3 => ?_)
  obtain ⟨hdf, _, M1, θ1, π1, he, hs1, hf1⟩ := r3
  obtain ⟨tmps, defers⟩ := a3
  simp only at hdf hf1
  subst hdf
  have hm := hf1.slot 3 _ h3
  obtain ⟨g, hg, hv⟩ := (show Rep M1 θ1 (.map (some 0)) _ from hm).mapS
  obtain ⟨_, g', us, clock, hg', hb, hen, hbn⟩ := hs1.ob 0 _ rfl
  rw [hg] at hg'; cases hg'
  obtain ⟨e1, k1, k2, k3⟩ := hen.2 0 _ _ rfl
  have hus : us = #[e1] := by
    apply Array.ext
    · simpa using hen.1
    · intro j q1 q2
      simp at q2
      subst q2
      simpa [q1] using k1
  have hval : e1.val = .int .i64 3 := k3.rep.int
  obtain ⟨ek, ev, eb⟩ := e1
  simp only at hval
  subst hval
  subst hus
  refine rest38 (by rw [hf1.size, hlen]) hv hb (hbn.1 ⟨ek, .int .i64 3, eb⟩ (by simp)) fun tmps' w' hbel h2 hsz => ?_
  have hExt : Ext0 w M th0 [] w3 M1 θ1 [.map [(.int .i64 0, .int .i64 3)]] := ⟨he.os, he.tape, he.output, he.size, he.m, he.t, he.block, he.own, fun s g h => (by cases h), he.dom⟩
  have hExt2 : Ext0 w3 M1 θ1 [.map [(.int .i64 0, .int .i64 3)]] w' M1 θ1 [.map [(.int .i64 0, .int .i64 3)]] :=
    ⟨hbel.os, hbel.tape, hbel.output, hbel.size, M1.le_refl, θ1.le_refl, fun k hk _ _ => hbel.block k hk, fun k h => .inl h, fun s k h => (by cases h), fun k o v h => .inl h⟩
  have hs2 : StR w' M1 θ1 [.map [(.int .i64 0, .int .i64 3)]] := hs1.keep (fun k hk => by
    obtain ⟨id, hk⟩ := hk
    exact hbel.block k (hk.lt hs1)) (fun k o v h => hbel.block k (World.block_lt_of_cell? w3 _ (hs1.mem k o v h)))
  refine ⟨rfl, .int .i64 0, ?_, M1, θ1, _, rfl, hExt.trans hExt2, hs2⟩
  have hr : Try.f38.results = #[.tmp 2] := rfl
  rw [results_eq, hr]
  simp [resF, h2]

theorem nodes_callR {args : List AV} {σ σ' : St} {base : Nat} {r : AV} (h : nodesP args σ base = some (r, σ')) : CallR Try.prog 38 args σ r σ' := by
  unfold nodesP at h
  split at h
  · rename_i f xs
    split at h
    · rename_i hx
      cases h
      have hx' := isOne_eq hx
      subst hx'
      refine ⟨fun w vs => enters_call enters Try.func38 c38_eq w vs, fun w M θ vs hs ha => ?_⟩
      have hs0 : StR w M th0 [] := ⟨hs.mem, fun id x hx => by simp at hx, fun i j g hi => by unfold OwnAt at hi; simp at hi, fun g ⟨id, h⟩ => by unfold OwnAt at h; simp at h, fun id _ => ⟨fun _ => rfl, rfl⟩⟩
      obtain ⟨u, rfl, hu⟩ := one_arg ha
      have hu' : Cell M th0 (.list f 3 one4) u := list_th hu
      refine (nodes_calls (f := f) hs0 ⟨rfl, fun i v hi => ?_⟩).mono ?_
      · cases i with
        | zero => cases hi; exact hu'
        | succ i => simp at hi
      · rintro e w' ⟨M', θ', σ', rfl, h1, h2⟩
        obtain ⟨q1, q2⟩ := cut_state hs0 h2 h1 (fun id h => by simp at h)
        obtain ⟨r1, r2⟩ := lift_state (n := 0) hs q1 q2
        exact ⟨_, _, θ, rfl, r1, r2, (Cell.int .i64 0).rep⟩
    · cases h
  · cases h

theorem primOk : PrimOk Try.prog cfI := by
  have only : ∀ f p, cfI.prim f = some p → (f = 38 ∧ p = nodesP) ∨ (f = 54 ∧ p = lenP) ∨ (f = 106 ∧ p = cloneP) ∨ (f = 123 ∧ p = growP) := by
    intro f p h
    simp only [cfI] at h
    split at h
    · cases h; exact .inl ⟨rfl, rfl⟩
    · cases h; exact .inr (.inl ⟨rfl, rfl⟩)
    · cases h; exact .inr (.inr (.inl ⟨rfl, rfl⟩))
    · cases h; exact .inr (.inr (.inr ⟨rfl, rfl⟩))
    · cases h
  have np : ∀ {args : List AV} {σ σ' : St} {base : Nat} {r : AV}, nodesP args σ base = some (r, σ') → σ' = σ := by
    intro args σ σ' base r h
    unfold nodesP at h
    split at h
    · split at h
      · cases h; rfl
      · cases h
    · cases h
  have lp : ∀ {args : List AV} {σ σ' : St} {base : Nat} {r : AV}, lenP args σ base = some (r, σ') → σ' = σ := by
    intro args σ σ' base r h
    unfold lenP at h
    split at h
    · cases h; rfl
    · cases h; rfl
    · cases h; rfl
    · cases h
  refine ⟨fun f p args σ base r σ' hp hb h => ?_, fun f p args σ base r σ' hp hb h => ?_, fun f p args σ base r σ' hp hpu h => ?_, fun f p args σ base r σ' hp hpu h => ?_⟩
  · rcases only f p hp with ⟨rfl, rfl⟩ | ⟨rfl, rfl⟩ | ⟨rfl, rfl⟩ | ⟨rfl, rfl⟩
    · exact nodes_callR h
    · exact len_callR h
    · exact clone_callR h
    · exact grow_callR h
  · rcases only f p hp with ⟨rfl, rfl⟩ | ⟨rfl, rfl⟩ | ⟨rfl, rfl⟩ | ⟨rfl, rfl⟩
    · rw [np h]; exact Keep.refl _ _
    · rw [lp h]; exact Keep.refl _ _
    · exact app_keep hb (clone_app h)
    · exact app_keep hb (grow_app h)
  · rcases only f p hp with ⟨rfl, rfl⟩ | ⟨rfl, rfl⟩ | ⟨rfl, rfl⟩ | ⟨rfl, rfl⟩
    · exact np h
    · exact lp h
    · cases hpu
    · cases hpu
  · rcases only f p hp with ⟨rfl, rfl⟩ | ⟨rfl, rfl⟩ | ⟨rfl, rfl⟩ | ⟨rfl, rfl⟩
    · rw [np h]; exact Sup.refl
    · rw [lp h]; exact Sup.refl
    · exact app_sup (clone_app h)
    · exact app_sup (grow_app h)

theorem good : CallGood Try.prog cfI (callL Try.prog cfI) := callL_good mixed enters primOk

end Go.Can
