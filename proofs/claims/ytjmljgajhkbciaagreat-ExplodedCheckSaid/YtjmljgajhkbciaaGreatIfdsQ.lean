/- checkNodes put together; the evaluator's word stands for the IFDS program. -/
import Derived.Test.YtjmljgajhkbciaaGreatIfdsX
import Derived.Test.YtjmljgajhkbciaaGreatIfdsW
import Derived.Test.YtjmljgajhkbciaaGreatIfdsV
set_option linter.unusedSimpArgs false
set_option linter.unusedVariables false
namespace Go.Can
open Go Go.Proofs Go.RowKit

theorem nodeOf_eq {x : AV} {n : Int × Int × Int} (h : nodeOf x = some n) : x = nodeA n := by
  unfold nodeOf at h
  split at h
  · cases h; rfl
  · cases h

theorem nodesOf_eq : ∀ {xs : List AV} {l : List (Int × Int × Int)}, nodesOf xs = some l → xs = l.map nodeA
  | [], l, h => by cases h; rfl
  | x :: xs, l, h => by
    unfold nodesOf at h
    split at h
    · rename_i a k h1 h2
      cases h
      rw [nodeOf_eq h1, nodesOf_eq h2]; rfl
    · cases h

theorem nodeA_ints {n : Int × Int × Int} : ∀ c ∈ (nodeA n).cells, ∃ k q, c = AV.int k q := by
  intro c hc
  simp only [nodeA, AV.cells, List.mem_cons, List.not_mem_nil, or_false] at hc
  rcases hc with h | h | h
  · exact ⟨_, _, h⟩
  · exact ⟨_, _, h⟩
  · exact ⟨_, _, h⟩

theorem list_th {M : Mem} {θ θ' : Th} {f : Bool} {u : Value} {ns : List (Int × Int × Int)} (h : Cell M θ (.list f 3 (ns.map nodeA)) u) : Cell M θ' (.list f 3 (ns.map nodeA)) u := by
  cases h with
  | list _ _ _ a cap uu hc hm hf hs ha he =>
    refine .list f 3 _ a cap uu hc hm hf hs ha fun i x hx j c hj => ?_
    obtain ⟨n, _, rfl⟩ := List.mem_map.1 (List.mem_of_getElem? hx)
    obtain ⟨k, q, rfl⟩ := nodeA_ints c (List.mem_of_getElem? hj)
    have := (he i _ hx j _ hj).rep.int
    rw [this]
    exact .int k q

theorem list_len {M : Mem} {θ : Th} {f : Bool} {u : Value} {s : Nat} {xs : List AV} (h : Cell M θ (.list f s xs) u) : xs.length ≤ maxLen := by
  cases h with
  | list _ _ _ a cap uu hc hm hf hs ha he => exact Nat.le_trans hc hm

theorem seq_ret {rg : Nat → Array Oper → Bool → S → Option S} {mk : Code → Option Out → Env → Option Env} {lp : (S → Option (Out × S)) → S → Option (Out × S)} {x y : Code} {s s' : S} (h : execC rg mk lp (.seq x y) s = some (.ret, s')) :
    execC rg mk lp x s = some (.ret, s') ∨ ∃ s1, execC rg mk lp x s = some (.normal, s1) ∧ execC rg mk lp y s1 = some (.ret, s') := by
  unfold execC at h
  split at h
  · rename_i s1 h1; exact .inr ⟨s1, h1, h⟩
  · exact .inl h

theorem ok38 : codeOk Tryz.prog cf0 49 (fstOf k38) = true ∧ codeOk Tryz.prog cf0 49 (fstOf (sndOf k38)) = true ∧ codeOk Tryz.prog cf0 49 (fstOf (sndOf (sndOf k38))) = true := ⟨by kernel_rfl, by kernel_rfl, by kernel_rfl⟩

theorem exec38s {w : World} {M : Mem} {c : Code} {s s' : S} {o : Out} {a : Act} {w1 : World} {Q : Exit → Act → World → Prop} (hok : codeOk Tryz.prog cf0 49 c = true)
    (h : execC (rgT Tryz.prog cf0 (callL Tryz.prog cf0) 0 49) (mkT cf0 49) loopL c s = some (o, s'))
    (hr : RelS w M th0 [] 0 s a w1) (hQ : ∀ a' w', RelS w M th0 [] 0 s' a' w' → Q o.toExit a' w') : c.wp Tryz.prog Q a w1 := by
  have gd := callL_good (cf := cf0) mixed enters primOk0
  rw [← execC_text hok] at h
  exact exec_sound (Rel := RelS w M th0 [] 0) (fun id ops d s s' a w Q h1 h2 h3 => region_sound mixed gd.ok gd.pure gd.grow h1 h2 h3) (fun c o e e' σ a w h1 h2 => RelS.mask (s := (e, σ)) h2 h1) (fun b s r h => loopL_iff.1 h) (fun s a w c t h1 h2 => cond_sound h1 h2) c h hr hQ

theorem k38_eq : Tryz.f49.body = some (.seq (fstOf k38) (.seq (fstOf (sndOf k38)) (.seq (fstOf (sndOf (sndOf k38))) b38))) := by kernel_rfl

theorem ext_tail {w w3 : World} {M M1 : Mem} {θ1 : Th} {σ : St} {π : Nat → Option Nat} {π0 : Nat → Option Nat} (he : Ext w M th0 [] π0 w3 M1 θ1 σ π) (hp0 : ∀ s, π0 s = none) : Ext0 w M th0 [] w3 M1 θ1 σ :=
  ⟨he.os, he.tape, he.output, he.size, he.m, he.t, fun g h1 h2 _ => he.block g h1 h2 (fun s => by rw [hp0 s]; simp), he.own, fun s g h => (by cases h), he.dom⟩

set_option maxRecDepth 100000 in
set_option maxHeartbeats 4000000 in
theorem nodes_calls {w : World} {M : Mem} {f : Bool} {ns : List (Int × Int × Int)} {vs : Array Value} (hlen : ns.length < 2^63) (hs0 : StR w M th0 []) (ha0 : ArgsR M th0 [.list f 3 (ns.map nodeA)] vs) :
    Calls Tryz.prog 49 vs w fun e w' => ∃ M' θ' σ', e = .returned (.int .i64 (errNodes ns)) ∧ Ext0 w M th0 [] w' M' θ' σ' ∧ StR w' M' θ' σ' := by
  have hr : Tryz.f49.results = #[.tmp 2] := rfl
  obtain ⟨ok1, ok2, ok3⟩ := ok38
  have hsf : FrR w M th0 [] (fun _ => none) ([AV.list f 3 (ns.map nodeA)].map .val ++ List.replicate 83 .und) (vs ++ Array.replicate (Tryz.f49.ntmps - vs.size) undef) := start_frame 84 ha0
  refine calls_of_wp Tryz.func49 k38_eq ?_
  obtain ⟨hx0, hx1⟩ := exec38 (fl := f) hlen
  by_cases hsc : scanN none ns = 0
  · obtain ⟨env, hex, hlen2, h3⟩ := hx0 hsc
    unfold a38 at hex
    obtain ⟨sa, x1, x2⟩ := seq_split hex
    obtain ⟨sb, x3, x4⟩ := seq_split x2
    clear hex x2 hx0 hx1
    have hst : startE 84 [AV.list f 3 (ns.map nodeA)] = List.map Slot.val [AV.list f 3 (ns.map nodeA)] ++ List.replicate 83 Slot.und := rfl
    rw [hst] at x1
    generalize fstOf k38 = R0 at *
    generalize fstOf (sndOf k38) = R1 at *
    generalize fstOf (sndOf (sndOf k38)) = A2 at *
    generalize List.map Slot.val [AV.list f 3 (ns.map nodeA)] ++ List.replicate 83 Slot.und = env0 at *
    generalize vs ++ Array.replicate (Tryz.f49.ntmps - vs.size) undef = tm0 at *
    refine wp_seq (exec38s ok1 x1 ⟨rfl, Nat.le_refl _, M, th0, fun _ => none, Ext.refl _ _ _ _ _, hs0, hsf⟩ fun a1 w1 r1 => ?_)
    refine wp_seq (exec38s ok2 x3 r1 fun a2 w2 r2 => ?_)
    refine wp_seq (exec38s ok3 x4 r2 fun a3 w3 r3 => ?_)
    obtain ⟨hdf, _, M1, θ1, π1, he, hs1, hf1⟩ := r3
    obtain ⟨tmps, defers⟩ := a3
    simp only at hdf hf1
    subst hdf
    have hm := hf1.slot 3 _ h3
    obtain ⟨g, hg, hv⟩ := (show Rep M1 θ1 (.map (some 0)) _ from hm).mapS
    obtain ⟨_, g', us, clock, hg', hb, hen, hbn⟩ := hs1.ob 0 _ rfl
    rw [hg] at hg'; cases hg'
    have hent : ∀ (i : Nat) (hi : i < us.size), ∃ e : Int × Int, (kinds [] ns)[i]? = some e ∧ us[i].val = .int .i64 e.2 := fun i hi => by
      have hi' : i < (kinds [] ns).length := by rw [hen.1, List.length_map] at hi; exact hi
      refine ⟨(kinds [] ns)[i], by simp [hi'], ?_⟩
      obtain ⟨e1, k1, _, k3⟩ := hen.2 i (.int .i64 (kinds [] ns)[i].1) (.int .i64 (kinds [] ns)[i].2) (by simp [hi', entA])
      rw [Array.getElem?_eq_getElem hi] at k1
      cases k1
      exact k3.rep.int
    have hvals : ∀ x ∈ us.toList, ∃ v, x.val = .int .i64 v := fun x hx => by
      obtain ⟨i, hi, rfl⟩ := List.getElem_of_mem hx
      obtain ⟨e, _, h⟩ := hent i (by simpa using hi)
      exact ⟨_, by simpa using h⟩
    have hany : (us.toList.any fun x => decide (¬ valOf x.val = 3)) = !(ns.all fun n => cntN ns n.1 == 3) := by
      rw [← kinds_all, Bool.eq_iff_iff, List.any_eq_true, List.any_eq_true]
      constructor
      · rintro ⟨x, hx, h⟩
        obtain ⟨i, hi, rfl⟩ := List.getElem_of_mem hx
        have hi' : i < us.size := by simpa using hi
        obtain ⟨e, he, h2⟩ := hent i hi'
        refine ⟨e, List.mem_of_getElem? he, ?_⟩
        simp only [Array.getElem_toList, h2, valOf] at h
        simpa using h
      · rintro ⟨e, he, h⟩
        obtain ⟨i, hi, rfl⟩ := List.getElem_of_mem he
        have hi' : i < us.size := by rw [hen.1, List.length_map]; exact hi
        obtain ⟨e2, he2, h2⟩ := hent i hi'
        have : e2 = (kinds [] ns)[i] := by
          have h4 : (kinds [] ns)[i]? = some (kinds [] ns)[i] := by simp [hi]
          rw [h4] at he2; cases he2; rfl
        subst this
        refine ⟨us[i], by simp, ?_⟩
        simp only [h2, valOf]
        simpa using h
    refine rest38 (by rw [hf1.size, hlen2]) hv hb hbn hvals fun tmps' w' hbel h2 hsz => ?_
    have hExt := ext_tail he (fun _ => rfl)
    have hExt2 : Ext0 w3 M1 θ1 [.map ((kinds [] ns).map entA)] w' M1 θ1 [.map ((kinds [] ns).map entA)] :=
      ⟨hbel.os, hbel.tape, hbel.output, hbel.size, M1.le_refl, θ1.le_refl, fun k hk _ _ => hbel.block k hk, fun k h => .inl h, fun s k h => (by cases h), fun k o v h => .inl h⟩
    have hs2 : StR w' M1 θ1 [.map ((kinds [] ns).map entA)] := hs1.keep (fun k hk => by
      obtain ⟨id, hk⟩ := hk
      exact hbel.block k (hk.lt hs1)) (fun k o v h => hbel.block k (World.block_lt_of_cell? w3 _ (hs1.mem k o v h)))
    refine ⟨rfl, .int .i64 (errNodes ns), ?_, M1, θ1, _, rfl, hExt.trans hExt2, hs2⟩
    have hres : errNodes ns = if (us.toList.any fun x => decide (¬ valOf x.val = 3)) = true then 1 else 0 := by
      unfold errNodes
      rw [if_pos hsc, hany]
      cases (ns.all fun n => cntN ns n.1 == 3) <;> rfl
    rw [results_eq, hr, hres]
    simp [resF, h2]
  · obtain ⟨env, σ', hex, hlen2, h3⟩ := hx1 hsc
    have hres : errNodes ns = scanN none ns := by unfold errNodes; rw [if_neg hsc]
    unfold a38 at hex
    have hfin : ∀ (a3 : Act) (w3 : World), RelS w M th0 [] 0 (env, σ') a3 w3 → a3.defers = [] ∧ ∃ v, (results Tryz.f49 a3.tmps).run Tryz.prog w3 = .ok v w3 ∧ ∃ M' θ' σ', Ending.returned v = .returned (.int .i64 (errNodes ns)) ∧ Ext0 w M th0 [] w3 M' θ' σ' ∧ StR w3 M' θ' σ' := by
      intro a3 w3 r3
      obtain ⟨hdf, _, M1, θ1, π1, he, hs1, hf1⟩ := r3
      have h2 := (show Rep M1 θ1 (.int .i64 (scanN none ns)) _ from hf1.slot 2 _ h3).int
      refine ⟨hdf, .int .i64 (errNodes ns), ?_, M1, θ1, σ', rfl, ext_tail he (fun _ => rfl), hs1⟩
      rw [results_eq, hr, hres]
      simp [resF, h2]
    clear hx0 hx1
    have hst : startE 84 [AV.list f 3 (ns.map nodeA)] = List.map Slot.val [AV.list f 3 (ns.map nodeA)] ++ List.replicate 83 Slot.und := rfl
    rw [hst] at hex
    generalize fstOf k38 = R0 at *
    generalize fstOf (sndOf k38) = R1 at *
    generalize fstOf (sndOf (sndOf k38)) = A2 at *
    generalize List.map Slot.val [AV.list f 3 (ns.map nodeA)] ++ List.replicate 83 Slot.und = env0 at *
    generalize vs ++ Array.replicate (Tryz.f49.ntmps - vs.size) undef = tm0 at *
    have hr0 : RelS w M th0 [] 0 (env0, []) ⟨tm0, []⟩ w := ⟨rfl, Nat.le_refl _, M, th0, fun _ => none, Ext.refl _ _ _ _ _, hs0, hsf⟩
    rcases seq_ret hex with y | ⟨sa, x1, x2⟩
    · exact wp_seq (exec38s ok1 y hr0 fun a1 w1 r1 => hfin a1 w1 r1)
    · refine wp_seq (exec38s ok1 x1 hr0 fun a1 w1 r1 => ?_)
      rcases seq_ret x2 with y | ⟨sb, x3, x4⟩
      · exact wp_seq (exec38s ok2 y r1 fun a1 w1 r1 => hfin a1 w1 r1)
      · refine wp_seq (exec38s ok2 x3 r1 fun a2 w2 r2 => ?_)
        exact wp_seq (exec38s ok3 x4 r2 fun a1 w1 r1 => hfin a1 w1 r1)

theorem nodes_callR {args : List AV} {σ σ' : St} {base : Nat} {r : AV} (h : nodesP args σ base = some (r, σ')) : CallR Tryz.prog 49 args σ r σ' := by
  unfold nodesP at h
  split at h
  · rename_i f xs
    split at h
    · rename_i ns hn
      cases h
      have hx := nodesOf_eq hn
      subst hx
      refine ⟨fun w vs => enters_call enters Tryz.func49 k38_eq w vs, fun w M θ vs hs ha => ?_⟩
      have hs0 : StR w M th0 [] := ⟨hs.mem, fun id x hx => by simp at hx, fun i j g hi => by unfold OwnAt at hi; simp at hi, fun g ⟨id, h⟩ => by unfold OwnAt at h; simp at h, fun id _ => ⟨fun _ => rfl, rfl⟩⟩
      obtain ⟨u, rfl, hu⟩ := one_arg ha
      have hu' : Cell M th0 (.list f 3 (ns.map nodeA)) u := list_th hu
      have hl := list_len hu'
      rw [List.length_map] at hl
      have hml : maxLen < 2^63 := by decide
      refine (nodes_calls (f := f) (ns := ns) (by omega) hs0 ⟨rfl, fun i v hi => ?_⟩).mono ?_
      · cases i with
        | zero => cases hi; exact hu'
        | succ i => simp at hi
      · rintro e w' ⟨M', θ', σ', rfl, h1, h2⟩
        obtain ⟨q1, q2⟩ := cut_state hs0 h2 h1 (fun id h => by simp at h)
        obtain ⟨r1, r2⟩ := lift_state (n := 0) hs q1 q2
        exact ⟨_, _, θ, rfl, r1, r2, (Cell.int .i64 _).rep⟩
    · cases h
  · cases h

theorem sort_keep {args : List AV} {σ σ' : St} {base : Nat} {r : AV} (hb : base ≤ σ.length) (h : sortP args σ base = some (r, σ')) : Keep base σ σ' := by
  unfold sortP at h
  split at h
  · split at h
    · split at h
      · rename_i hc
        split at h
        · cases h
          refine ⟨by simp, fun id hid => ?_⟩
          rw [List.getElem?_set_ne (by omega)]
        · cases h
      · cases h
    · cases h
  · cases h

theorem primOk : PrimOk Tryz.prog cfI := by
  have only : ∀ f p, cfI.prim f = some p → (f = 49 ∧ p = nodesP) ∨ (f = 73 ∧ p = lenP) ∨ (f = 76 ∧ p = sortP) ∨ (f = 61 ∧ p = cloneP) ∨ (f = 71 ∧ p = growP) := by
    intro f p h
    simp only [cfI] at h
    split at h
    · cases h; exact .inl ⟨rfl, rfl⟩
    · cases h; exact .inr (.inl ⟨rfl, rfl⟩)
    · cases h; exact .inr (.inr (.inl ⟨rfl, rfl⟩))
    · cases h; exact .inr (.inr (.inr (.inl ⟨rfl, rfl⟩)))
    · cases h; exact .inr (.inr (.inr (.inr ⟨rfl, rfl⟩)))
    · cases h
  have np : ∀ {args : List AV} {σ σ' : St} {base : Nat} {r : AV}, nodesP args σ base = some (r, σ') → σ' = σ := by
    intro args σ σ' base r h
    unfold nodesP at h
    split at h
    · split at h
      · cases h; rfl
      · cases h
    · cases h
  have lp : ∀ {args : List AV} {σ σ' : St} {base : Nat} {r : AV}, lenP args σ base = some (r, σ') → σ' = σ := by
    intro args σ σ' base r h
    unfold lenP at h
    split at h
    · cases h; rfl
    · cases h; rfl
    · cases h; rfl
    · cases h
  refine ⟨fun f p args σ base r σ' hp hb h => ?_, fun f p args σ base r σ' hp hb h => ?_, fun f p args σ base r σ' hp hpu h => ?_, fun f p args σ base r σ' hp hpu h => ?_⟩
  · rcases only f p hp with ⟨rfl, rfl⟩ | ⟨rfl, rfl⟩ | ⟨rfl, rfl⟩ | ⟨rfl, rfl⟩ | ⟨rfl, rfl⟩
    · exact nodes_callR h
    · exact len_callR h
    · exact sort_callR h
    · exact clone_callR h
    · exact grow_callR h
  · rcases only f p hp with ⟨rfl, rfl⟩ | ⟨rfl, rfl⟩ | ⟨rfl, rfl⟩ | ⟨rfl, rfl⟩ | ⟨rfl, rfl⟩
    · rw [np h]; exact Keep.refl _ _
    · rw [lp h]; exact Keep.refl _ _
    · exact sort_keep hb h
    · exact app_keep hb (clone_app h)
    · exact app_keep hb (grow_app h)
  · rcases only f p hp with ⟨rfl, rfl⟩ | ⟨rfl, rfl⟩ | ⟨rfl, rfl⟩ | ⟨rfl, rfl⟩ | ⟨rfl, rfl⟩
    · exact np h
    · exact lp h
    · cases hpu
    · cases hpu
    · cases hpu
  · rcases only f p hp with ⟨rfl, rfl⟩ | ⟨rfl, rfl⟩ | ⟨rfl, rfl⟩ | ⟨rfl, rfl⟩ | ⟨rfl, rfl⟩
    · rw [np h]; exact Sup.refl
    · rw [lp h]; exact Sup.refl
    · cases hpu
    · exact app_sup (clone_app h)
    · exact app_sup (grow_app h)

theorem good : CallGood Tryz.prog cfI (callL Tryz.prog cfI) := callL_good mixed enters primOk

end Go.Can
