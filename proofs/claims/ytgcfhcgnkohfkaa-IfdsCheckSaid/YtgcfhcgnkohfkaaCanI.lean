/- The operations, sixth part: lengths, slices, rows that grow. -/
import Derived.Test.YtgcfhcgnkohfkaaCanH
set_option linter.unusedSimpArgs false
set_option linter.unusedVariables false
namespace Go.Can
open Go Go.RowKit
section
variable {P : Program} {w : World} {M : Mem} {θ : Th} {σ : St} {π : Nat → Option Nat} {env : Env} {o : Oper} {a : Act}

theorem builtin_run {b : Builtin} {c : Call} (ho : o.op = .call c) (hc : c.callee = .builtin b) : ∃ cs, (execOp a.eval o).run P w = (builtin b c.argTypes o.type cs (c.args.map a.eval)).run P w := by
  refine ⟨c.args.map fun | .const _ => true | _ => false, ?_⟩
  simp only [execOp, ho, resolve, hc, Sem.run_bind, Sem.run_pure, Result.andThen_ok, invoke]
  rfl

theorem lookVs_one {xs : List Operand} {v : AV} (h : lookVs env xs = some [v]) : ∃ x, xs = [x] ∧ lookV env x = some v := by
  match xs, h with
  | [x], h =>
    unfold lookVs at h
    split at h
    · rename_i a as h1 h2; simp [lookVs] at h2; subst h2; simp at h; exact ⟨x, rfl, by rw [h1, h]⟩
    · cases h
  | [], h => simp [lookVs] at h
  | x :: y :: ys, h =>
    unfold lookVs at h
    split at h
    · rename_i a as h1 h2
      unfold lookVs at h2
      split at h2
      · cases h2; simp at h
      · cases h2
    · cases h

theorem lookVs_two {xs : List Operand} {v v' : AV} (h : lookVs env xs = some [v, v']) : ∃ x y, xs = [x, y] ∧ lookV env x = some v ∧ lookV env y = some v' := by
  match xs, h with
  | [], h => simp [lookVs] at h
  | x :: ys, h =>
    unfold lookVs at h
    split at h
    · rename_i a as h1 h2
      simp only [Option.some.injEq, List.cons.injEq] at h
      obtain ⟨rfl, rfl⟩ := h
      obtain ⟨y, rfl, h3⟩ := lookVs_one h2
      exact ⟨x, y, rfl, h1, h3⟩
    · cases h

theorem array_one {α : Type} {xs : Array α} {x : α} (h : xs.toList = [x]) : xs = #[x] := by
  apply Array.ext'; rw [h]
theorem array_two {α : Type} {xs : Array α} {x y : α} (h : xs.toList = [x, y]) : xs = #[x, y] := by
  apply Array.ext'; rw [h]

theorem op_len {c : Call} {t : TypeId} {v r : AV} {σ' : St} {base : Nat} (hs : StR w M θ σ) (hf : FrR w M θ σ π env a.tmps) (hd : okDst env o.dst = true) (ho : o.op = .call c) (hc : c.callee = .builtin .len)
    (ht : c.argTypes.toList = [t]) (hx : lookVs env c.args.toList = some [v]) (hr : evalBuiltin P base .len [t] σ [v] = some (r, σ')) : OpS P w M θ σ π o a env σ' (.val r) := by
  obtain ⟨x, h1, h2⟩ := lookVs_one hx
  have hv := (lookV_sound hf h2).rep
  obtain ⟨ics, e0⟩ := builtin_run (P := P) (w := w) (a := a) ho hc
  have e1 := array_one ht
  have e2 := array_one h1
  rw [e1, e2] at e0
  simp only [evalBuiltin] at hr
  split at hr
  · rename_i e' hu
    split at hr
    · rename_i n hn
      cases hr
      have hb : ∃ b cap, a.eval x = .slice b n cap := by
        unfold lenS at hn
        split at hn
        · cases hn; obtain ⟨b, cap, hb⟩ := hv.list; exact ⟨b, cap, hb⟩
        · cases hn; obtain ⟨b, cap, hb⟩ := hv.row; exact ⟨b, cap, hb⟩
        · cases hn
      obtain ⟨b, cap, hb⟩ := hb
      exact .sameV (u := .int .i64 n) hs hf hd (by rw [e0]; simp [builtin, Builtin.len_, run_underlying hu, hb, goInt]) (Cell.int _ _).rep
    · cases hr
  · rename_i hu
    split at hr
    · rename_i s
      cases hr
      exact .sameV (u := .int .i64 s.size) hs hf hd (by rw [e0]; simp [builtin, Builtin.len_, run_underlying hu, hv.str, goInt]) (Cell.int _ _).rep
    · cases hr
  · rename_i k e' hu
    split at hr
    · cases hr
      exact .sameV (u := .int .i64 0) hs hf hd (by rw [e0]; simp [builtin, Builtin.len_, run_underlying hu, hv.mapN, goInt]) (Cell.int _ _).rep
    · rename_i id
      split at hr
      · rename_i es hes
        cases hr
        obtain ⟨g, hg, hb⟩ := hv.mapS
        obtain ⟨_, g', us, clock, h3, h4, h5, hbn⟩ := hs.ob _ _ hes
        rw [hg] at h3; cases h3
        exact .sameV (u := .int .i64 es.length) hs hf hd (by rw [e0]; simp [builtin, Builtin.len_, run_underlying hu, hb, getObj_map h4, goInt, h5.1]) (Cell.int _ _).rep
      · cases hr
    · cases hr
  · cases hr

theorem op_delete {base : Nat} {c : Call} {t : TypeId} {ts : List TypeId} {m k r : AV} {σ' : St} (hs : StR w M θ σ) (hf : FrR w M θ σ π env a.tmps) (hd : okDst env o.dst = true) (ho : o.op = .call c) (hc : c.callee = .builtin .delete)
    (ht : c.argTypes.toList = t :: ts) (hx : lookVs env c.args.toList = some [m, k]) (hr : evalBuiltin P base .delete (t :: ts) σ [m, k] = some (r, σ')) : OpS P w M θ σ π o a env σ' (.val r) := by
  obtain ⟨x, y, h1, h2, h3⟩ := lookVs_two hx
  have hm := lookV_sound hf h2
  have hk := lookV_sound hf h3
  obtain ⟨ics, e0⟩ := builtin_run (P := P) (w := w) (a := a) ho hc
  have e1 : c.argTypes[0]? = some t := by rw [← Array.getElem?_toList, ht]; rfl
  have e2 := array_two h1
  rw [e2] at e0
  simp only [evalBuiltin] at hr
  split at hr
  · rename_i σ1 hdel
    simp only [Option.some.injEq, Prod.mk.injEq] at hr
    obtain ⟨rfl, rfl⟩ := hr
    have hnil : Rep M θ (.tup []) (.tuple #[]) := ⟨#[], rfl, rfl, by simp⟩
    unfold mapDel at hdel
    split at hdel
    · rename_i kt e ht'
      have hu := lowMapOk_spec ht'
      split at hdel
      · rename_i hkok
        split at hdel
        · rename_i id
          split at hdel
          · split at hdel
            · rename_i es hes
              obtain ⟨g, hg, hb⟩ := hm.rep.mapS
              obtain ⟨_, g', us, clock, h4, h5, h6, hbn⟩ := hs.ob _ _ hes
              rw [hg] at h4; cases h4
              have hck := checkKey_run (P := P) (w := w) (em := us.isEmpty) hkok hk
              split at hdel
              · rename_i i w0 hfe
                cases hdel
                obtain ⟨r', h7, h8⟩ := findKey_run (P := P) (w := w) hkok hk h6.toL hfe
                obtain ⟨zv, rfl, _⟩ := h8
                obtain ⟨_, k', h9, _⟩ := findE_lt hfe
                simp only [Nat.sub_zero] at h9
                have hil : i < es.length := (List.getElem?_eq_some_iff.1 h9).1
                have hiu : i < us.size := by rw [h6.1]; exact hil
                obtain ⟨q1, q2⟩ := map_set (us' := us.eraseIdxIfInBounds i) (cl' := clock) (es' := es.eraseIdx i) hs hes hg h5 (by
                  have e5 : us.eraseIdxIfInBounds i = (us.toList.eraseIdx i).toArray := by
                    apply Array.ext'
                    simp
                  refine ⟨by rw [e5]; simp [List.length_eraseIdx, h6.1, hil], fun j k2 v2 hj => ?_⟩
                  rw [e5]
                  rw [List.getElem?_eraseIdx] at hj
                  simp only [List.getElem?_toArray, List.getElem?_eraseIdx]
                  split at hj
                  · rename_i hlt; rw [if_pos hlt]; simpa using h6.2 j k2 v2 hj
                  · rename_i hlt; rw [if_neg hlt]; simpa using h6.2 (j + 1) k2 v2 hj) hbn.erase
                exact .goV (u := .tuple #[]) hf hd (by
                  rw [e0]
                  simp [builtin, Builtin.delete_, e1, hb, run_underlying hu, getObj_map h5, hck, h7, setObj_map _ h5]) q1 q2 ⟨#[], rfl, rfl, by simp⟩
              · rename_i hfe
                cases hdel
                obtain ⟨r', h7, h8⟩ := findKey_run (P := P) (w := w) hkok hk h6.toL hfe
                subst h8
                have hx' : σ.set id (.map es) = σ := by
                  apply List.ext_getElem?
                  intro j
                  by_cases e6 : j = id
                  · subst e6; rw [List.getElem?_set_self (List.getElem?_eq_some_iff.1 hes).1, hes]
                  · rw [List.getElem?_set_ne (Ne.symm e6)]
                obtain ⟨q1, q2⟩ := map_set (us' := us) (cl' := clock) (es' := es) hs hes hg h5 h6 hbn
                rw [hx'] at q1 q2
                exact .goV (u := .tuple #[]) hf hd (by
                  rw [e0]
                  simp [builtin, Builtin.delete_, e1, hb, run_underlying hu, getObj_map h5, hck, h7, setObj_map _ h5]) q1 q2 ⟨#[], rfl, rfl, by simp⟩
              · cases hdel
            · cases hdel
          · cases hdel
        · cases hdel
      · cases hdel
    · cases hdel
  · cases hr

/-! Slices. -/

theorem optN_spec {x : Option Operand} {n : Option Int} (hf : FrR w M θ σ π env a.tmps) (h : optN env x = some n) : x.map a.eval = n.map (Value.int .i64) := by
  cases x with
  | none => simp [optN] at h; subst h; rfl
  | some y =>
    simp only [optN] at h
    split at h
    · rename_i m hm
      simp at h; subst h
      simp [(lookV_sound hf hm).rep.int]
    · cases h

theorem sliceBounds_run {len cap : Nat} {lo hi mx : Option Int} {h l m : Nat} (hh : hi.getD len = h) (hl : lo.getD 0 = l) (hm : mx.getD cap = m) (h1 : l ≤ h) (h2 : h ≤ m) (h3 : m ≤ cap) (h4 : mx.isSome → hi.isSome) :
    (Instr.sliceBounds true len cap (lo.map (Value.int .i64)) (hi.map (Value.int .i64)) (mx.map (Value.int .i64))).run P w = .ok (l, h, m) w := by
  have b : ∀ (i : Nat) (y : Nat) (code : BoundsCode), i ≤ y → (Instr.sliceBound (.int .i64 (i : Int)) y code).run P w = .ok i w := by
    intro i y code hi
    have h5 : (0 : Int) ≤ i ∧ (i : Int) ≤ y := by omega
    simp [Instr.sliceBound, asIntOf]
    omega
  cases mx with
  | none =>
    obtain rfl : cap = m := by simp at hm; omega
    cases hi with
    | none =>
      simp at hh
      cases lo with
      | none => simp at hl; simp [Instr.sliceBounds]; omega
      | some l' => simp at hl; subst hl; have hh' : len = h := by omega
                   subst hh'; simp [Instr.sliceBounds, b l len _ h1]
    | some h' =>
      simp at hh; subst hh
      cases lo with
      | none => simp at hl; simp [Instr.sliceBounds, b h cap _ h2]; omega
      | some l' => simp at hl; subst hl; simp [Instr.sliceBounds, b h cap _ h2, b l h _ h1]
  | some m' =>
    simp at hm; subst hm
    cases hi with
    | none => simp at h4
    | some h' =>
      simp at hh; subst hh
      cases lo with
      | none => simp at hl; simp [Instr.sliceBounds, b m cap _ h3, b h m _ h2]; omega
      | some l' => simp at hl; subst hl; simp [Instr.sliceBounds, b m cap _ h3, b h m _ h2, b l h _ h1]

theorem slice_run {t e : TypeId} {s b : Nat} {ad : Option Addr} {len cap : Nat} {lo hi mx : Option Int} {h l m : Nat} (ht : elemT P t = some (e, s, b)) (hh : hi.getD len = h) (hl : lo.getD 0 = l) (hm : mx.getD cap = m)
    (h1 : l ≤ h) (h2 : h ≤ m) (h3 : m ≤ cap) (h4 : mx.isSome → hi.isSome) :
    (Instr.sliceAt t (.slice ad len cap) (lo.map (Value.int .i64)) (hi.map (Value.int .i64)) (mx.map (Value.int .i64))).run P w = .ok (.slice (if m = l then ad else ad.map (·.add (l * s))) (h - l) (m - l)) w := by
  obtain ⟨hu, i, hi1, hi2, _⟩ := elemT_spec ht
  simp [Instr.sliceAt, run_underlying hu, Instr.slice, sliceBounds_run (P := P) (w := w) hh hl hm h1 h2 h3 h4, sizeOf, typeInfo, hi1, hi2]

theorem sliceOf_sound {sz : Nat} {s r : AV} {lo hi mx : Option Int} {ad : Option Addr} {len cap : Nat} (hr : sliceOf sz s lo hi mx = some r) (hc : Cell M θ s (.slice ad len cap)) :
    ∃ h l m, hi.getD len = (h : Nat) ∧ lo.getD 0 = (l : Nat) ∧ mx.getD cap = (m : Nat) ∧ l ≤ h ∧ h ≤ m ∧ m ≤ cap ∧ (mx.isSome → hi.isSome) ∧
      Cell M θ r (.slice (if m = l then ad else ad.map (·.add (l * sz))) (h - l) (m - l)) := by
  unfold sliceOf at hr
  simp only at hr
  split at hr
  · rename_i full s' xs
    generalize hv : Value.slice ad len cap = u at hc
    cases hc with
    | list _ _ _ a0 cap0 u0 hcl hml hfl hsl hal hel =>
      cases hv
      split at hr
      · rename_i hsz
        have key : ∀ (l h m : Nat) (full' : Bool), l ≤ h → h ≤ xs.length → h ≤ m → m ≤ cap → (full' = true → m = h) →
            Cell M θ (.list full' s' ((xs.drop l).take (h - l))) (.slice (if m = l then ad else ad.map (·.add (l * sz))) (h - l) (m - l)) := by
          intro l h m full' h1 h2 h3 h4 h5
          have hlen : ((xs.drop l).take (h - l)).length = h - l := by simp; omega
          have := Cell.list (M := M) (θ := θ) full' s' ((xs.drop l).take (h - l)) (if m = l then ad else ad.map (·.add (l * sz))) (m - l) (fun i j => u0 (l + i) j) (by omega) (by omega) (fun hf => by have := h5 hf; omega)
            (fun x hx => hsl x (List.mem_of_mem_drop (List.mem_of_mem_take hx))) (fun hne => ?_) (fun i x hx j c hj => ?_)
          · rw [hlen] at this; exact this
          · have hpos : 0 < h - l := by
              rcases Nat.eq_zero_or_pos (h - l) with h0 | h0
              · exact absurd (List.eq_nil_of_length_eq_zero (by rw [hlen]; exact h0)) hne
              · exact h0
            have hxne : xs ≠ [] := by intro e; subst e; simp at h2; omega
            obtain ⟨g, o1, e1, hm⟩ := hal hxne
            subst e1
            have hml' : m ≠ l := by omega
            have hss : s' = sz := by
              rcases Bool.or_eq_true _ _ ▸ hsz with h6 | h6
              · simpa using h6
              · exact absurd (by simpa using h6) hxne
            subst hss
            refine ⟨g, o1 + l * s', by rw [if_neg hml']; simp [addr_add], fun i x hx j c hj => ?_⟩
            have hi : i < h - l := by rw [← hlen]; exact (List.getElem?_eq_some_iff.1 hx).1
            rw [List.getElem?_take_of_lt hi, List.getElem?_drop] at hx
            have := hm (l + i) x hx j c hj
            have e2 : o1 + l * s' + (i * s' + j) = o1 + ((l + i) * s' + j) := by rw [Nat.add_mul]; omega
            rw [e2]; exact this
          · have hi : i < h - l := by rw [← hlen]; exact (List.getElem?_eq_some_iff.1 hx).1
            rw [List.getElem?_take_of_lt hi, List.getElem?_drop] at hx
            exact hel (l + i) x hx j c hj
        cases mx with
        | none =>
          simp only at hr
          split at hr
          · rename_i hb
            cases hr
            obtain ⟨b1, b2, b3⟩ := hb
            refine ⟨(hi.getD xs.length).toNat, (lo.getD 0).toNat, cap, by omega, by omega, rfl, by omega, by omega, Nat.le_refl _, by simp, ?_⟩
            exact key _ _ cap _ (by omega) (by omega) (by omega) (Nat.le_refl _) (fun hf => by simp at hf; have := hfl hf.1; omega)
          · cases hr
        | some m =>
          simp only at hr
          split at hr
          · rename_i hb
            cases hr
            obtain ⟨b1, b2, b3, b4, b5⟩ := hb
            refine ⟨(hi.getD xs.length).toNat, (lo.getD 0).toNat, m.toNat, by omega, by omega, by simp; omega, by omega, by omega, by omega, fun _ => b5, ?_⟩
            exact key _ _ m.toNat _ (by omega) (by omega) (by omega) (by omega) (fun hf => by simpa using hf)
          · cases hr
      · cases hr
  · rename_i s' id gen off len0 lim
    generalize hv : Value.slice ad len cap = u at hc
    cases hc with
    | row _ _ _ _ _ _ a0 cap0 cap1 b0 ht h1 hg hm hb hcap ha =>
      cases hv
      split at hr
      · rename_i hsz
        have hss : s' = sz := by simpa using hsz
        subst hss
        have hcle : len ≤ cap := by subst hcap; split <;> omega
        have key : ∀ (l h m : Nat) (lim' : Bool), l ≤ h → h ≤ len → h ≤ m → m ≤ cap → (m - l = if lim' then h - l else cap1 - (off + l)) →
            Cell M θ (.row s' id gen (off + l) (h - l) lim') (.slice (if m = l then ad else ad.map (·.add (l * s'))) (h - l) (m - l)) := by
          intro l h m lim' k1 k2 k3 k4 k5
          refine .row s' id gen (off + l) (h - l) lim' _ (m - l) cap1 b0 ht (by omega) hg hm hb k5 ?_
          by_cases e : m = l
          · left; omega
          · right
            rcases ha with ha | ⟨g, hb0, ha⟩
            · omega
            · refine ⟨g, hb0, ?_⟩
              rw [if_neg e, ha]
              simp [addr_add, Nat.add_mul]
        cases mx with
        | none =>
          simp only at hr
          split at hr
          · rename_i hb'
            split at hr
            · cases hr
            rename_i hlim
            cases hr
            obtain ⟨b1, b2, b3⟩ := hb'
            refine ⟨(hi.getD len).toNat, (lo.getD 0).toNat, cap, by omega, by omega, rfl, by omega, by omega, Nat.le_refl _, by simp, ?_⟩
            refine key _ _ cap _ (by omega) (by omega) (by omega) (Nat.le_refl _) ?_
            cases lim with
            | false => simp at hcap ⊢; omega
            | true =>
              simp at hcap hlim ⊢
              omega
          · cases hr
        | some m =>
          simp only at hr
          split at hr
          · rename_i hb'
            split at hr
            · rename_i hmh
              cases hr
              obtain ⟨b1, b2, b3, b4, b5⟩ := hb'
              simp only [beq_iff_eq] at hmh
              refine ⟨(hi.getD len).toNat, (lo.getD 0).toNat, m.toNat, by omega, by omega, by simp; omega, by omega, by omega, by omega, fun _ => b5, ?_⟩
              exact key _ _ m.toNat true (by omega) (by omega) (by omega) (by omega) (by simp; omega)
            · cases hr
          · cases hr
      · cases hr
  · cases hr

end
end Go.Can
