/- The operations, sixth part: lengths, slices, rows that grow. The operations, seventh part: elements' addresses, slices, literals, append. The operations, eighth part: literals, append. The operations, ninth part: append. The operations, tenth part: append, put together. -/
import Derived.Test.YtjmljgajhkbciaaGreatCanE
set_option linter.unusedSimpArgs false
set_option linter.unusedVariables false
namespace Go.Can
open Go Go.RowKit
section
variable {P : Program} {w : World} {M : Mem} {θ : Th} {σ : St} {π : Nat → Option Nat} {env : Env} {o : Oper} {a : Act}

theorem builtin_run {b : Builtin} {c : Call} (ho : o.op = .call c) (hc : c.callee = .builtin b) : ∃ cs, (execOp a.eval o).run P w = (builtin b c.argTypes o.type cs (c.args.map a.eval)).run P w := by
  refine ⟨c.args.map fun | .const _ => true | _ => false, ?_⟩
  simp only [execOp, ho, resolve, hc, Sem.run_bind, Sem.run_pure, Result.andThen_ok, invoke]
  rfl

theorem lookVs_one {xs : List Operand} {v : AV} (h : lookVs env xs = some [v]) : ∃ x, xs = [x] ∧ lookV env x = some v := by
  match xs, h with
  | [x], h =>
    unfold lookVs at h
    split at h
    · rename_i a as h1 h2; simp [lookVs] at h2; subst h2; simp at h; exact ⟨x, rfl, by rw [h1, h]⟩
    · cases h
  | [], h => simp [lookVs] at h
  | x :: y :: ys, h =>
    unfold lookVs at h
    split at h
    · rename_i a as h1 h2
      unfold lookVs at h2
      split at h2
      · cases h2; simp at h
      · cases h2
    · cases h

theorem lookVs_two {xs : List Operand} {v v' : AV} (h : lookVs env xs = some [v, v']) : ∃ x y, xs = [x, y] ∧ lookV env x = some v ∧ lookV env y = some v' := by
  match xs, h with
  | [], h => simp [lookVs] at h
  | x :: ys, h =>
    unfold lookVs at h
    split at h
    · rename_i a as h1 h2
      simp only [Option.some.injEq, List.cons.injEq] at h
      obtain ⟨rfl, rfl⟩ := h
      obtain ⟨y, rfl, h3⟩ := lookVs_one h2
      exact ⟨x, y, rfl, h1, h3⟩
    · cases h

theorem array_one {α : Type} {xs : Array α} {x : α} (h : xs.toList = [x]) : xs = #[x] := by
  apply Array.ext'; rw [h]
theorem array_two {α : Type} {xs : Array α} {x y : α} (h : xs.toList = [x, y]) : xs = #[x, y] := by
  apply Array.ext'; rw [h]

theorem op_len {c : Call} {t : TypeId} {v r : AV} {σ' : St} {base : Nat} (hs : StR w M θ σ) (hf : FrR w M θ σ π env a.tmps) (hd : okDst env o.dst = true) (ho : o.op = .call c) (hc : c.callee = .builtin .len)
    (ht : c.argTypes.toList = [t]) (hx : lookVs env c.args.toList = some [v]) (hr : evalBuiltin P base .len [t] σ [v] = some (r, σ')) : OpS P w M θ σ π o a env σ' (.val r) := by
  obtain ⟨x, h1, h2⟩ := lookVs_one hx
  have hv := (lookV_sound hf h2).rep
  obtain ⟨ics, e0⟩ := builtin_run (P := P) (w := w) (a := a) ho hc
  have e1 := array_one ht
  have e2 := array_one h1
  rw [e1, e2] at e0
  simp only [evalBuiltin] at hr
  split at hr
  · rename_i e' hu
    split at hr
    · rename_i n hn
      cases hr
      have hb : ∃ b cap, a.eval x = .slice b n cap := by
        unfold lenS at hn
        split at hn
        · cases hn; obtain ⟨b, cap, hb⟩ := hv.list; exact ⟨b, cap, hb⟩
        · cases hn; obtain ⟨b, cap, hb⟩ := hv.row; exact ⟨b, cap, hb⟩
        · cases hn
      obtain ⟨b, cap, hb⟩ := hb
      exact .sameV (u := .int .i64 n) hs hf hd (by rw [e0]; simp [builtin, Builtin.len_, run_underlying hu, hb, goInt]) (Cell.int _ _).rep
    · cases hr
  · rename_i hu
    split at hr
    · rename_i s
      cases hr
      exact .sameV (u := .int .i64 s.size) hs hf hd (by rw [e0]; simp [builtin, Builtin.len_, run_underlying hu, hv.str, goInt]) (Cell.int _ _).rep
    · cases hr
  · rename_i k e' hu
    split at hr
    · cases hr
      exact .sameV (u := .int .i64 0) hs hf hd (by rw [e0]; simp [builtin, Builtin.len_, run_underlying hu, hv.mapN, goInt]) (Cell.int _ _).rep
    · rename_i id
      split at hr
      · rename_i es hes
        cases hr
        obtain ⟨g, hg, hb⟩ := hv.mapS
        obtain ⟨_, g', us, clock, h3, h4, h5, hbn⟩ := hs.ob _ _ hes
        rw [hg] at h3; cases h3
        exact .sameV (u := .int .i64 es.length) hs hf hd (by rw [e0]; simp [builtin, Builtin.len_, run_underlying hu, hb, getObj_map h4, goInt, h5.1]) (Cell.int _ _).rep
      · cases hr
    · cases hr
  · cases hr

theorem op_delete {base : Nat} {c : Call} {t : TypeId} {ts : List TypeId} {m k r : AV} {σ' : St} (hs : StR w M θ σ) (hf : FrR w M θ σ π env a.tmps) (hd : okDst env o.dst = true) (ho : o.op = .call c) (hc : c.callee = .builtin .delete)
    (ht : c.argTypes.toList = t :: ts) (hx : lookVs env c.args.toList = some [m, k]) (hr : evalBuiltin P base .delete (t :: ts) σ [m, k] = some (r, σ')) : OpS P w M θ σ π o a env σ' (.val r) := by
  obtain ⟨x, y, h1, h2, h3⟩ := lookVs_two hx
  have hm := lookV_sound hf h2
  have hk := lookV_sound hf h3
  obtain ⟨ics, e0⟩ := builtin_run (P := P) (w := w) (a := a) ho hc
  have e1 : c.argTypes[0]? = some t := by rw [← Array.getElem?_toList, ht]; rfl
  have e2 := array_two h1
  rw [e2] at e0
  simp only [evalBuiltin] at hr
  split at hr
  · rename_i σ1 hdel
    simp only [Option.some.injEq, Prod.mk.injEq] at hr
    obtain ⟨rfl, rfl⟩ := hr
    have hnil : Rep M θ (.tup []) (.tuple #[]) := ⟨#[], rfl, rfl, by simp⟩
    unfold mapDel at hdel
    split at hdel
    · rename_i kt e ht'
      have hu := lowMapOk_spec ht'
      split at hdel
      · rename_i hkok
        split at hdel
        · rename_i id
          split at hdel
          · split at hdel
            · rename_i es hes
              obtain ⟨g, hg, hb⟩ := hm.rep.mapS
              obtain ⟨_, g', us, clock, h4, h5, h6, hbn⟩ := hs.ob _ _ hes
              rw [hg] at h4; cases h4
              have hck := checkKey_run (P := P) (w := w) (em := us.isEmpty) hkok hk
              split at hdel
              · rename_i i w0 hfe
                cases hdel
                obtain ⟨r', h7, h8⟩ := findKey_run (P := P) (w := w) hkok hk h6.toL hfe
                obtain ⟨zv, rfl, _⟩ := h8
                obtain ⟨_, k', h9, _⟩ := findE_lt hfe
                simp only [Nat.sub_zero] at h9
                have hil : i < es.length := (List.getElem?_eq_some_iff.1 h9).1
                have hiu : i < us.size := by rw [h6.1]; exact hil
                obtain ⟨q1, q2⟩ := map_set (us' := us.eraseIdxIfInBounds i) (cl' := clock) (es' := es.eraseIdx i) hs hes hg h5 (by
                  have e5 : us.eraseIdxIfInBounds i = (us.toList.eraseIdx i).toArray := by
                    apply Array.ext'
                    simp
                  refine ⟨by rw [e5]; simp [List.length_eraseIdx, h6.1, hil], fun j k2 v2 hj => ?_⟩
                  rw [e5]
                  rw [List.getElem?_eraseIdx] at hj
                  simp only [List.getElem?_toArray, List.getElem?_eraseIdx]
                  split at hj
                  · rename_i hlt; rw [if_pos hlt]; simpa using h6.2 j k2 v2 hj
                  · rename_i hlt; rw [if_neg hlt]; simpa using h6.2 (j + 1) k2 v2 hj) hbn.erase
                exact .goV (u := .tuple #[]) hf hd (by
                  rw [e0]
                  simp [builtin, Builtin.delete_, e1, hb, run_underlying hu, getObj_map h5, hck, h7, setObj_map _ h5]) q1 q2 ⟨#[], rfl, rfl, by simp⟩
              · rename_i hfe
                cases hdel
                obtain ⟨r', h7, h8⟩ := findKey_run (P := P) (w := w) hkok hk h6.toL hfe
                subst h8
                have hx' : σ.set id (.map es) = σ := by
                  apply List.ext_getElem?
                  intro j
                  by_cases e6 : j = id
                  · subst e6; rw [List.getElem?_set_self (List.getElem?_eq_some_iff.1 hes).1, hes]
                  · rw [List.getElem?_set_ne (Ne.symm e6)]
                obtain ⟨q1, q2⟩ := map_set (us' := us) (cl' := clock) (es' := es) hs hes hg h5 h6 hbn
                rw [hx'] at q1 q2
                exact .goV (u := .tuple #[]) hf hd (by
                  rw [e0]
                  simp [builtin, Builtin.delete_, e1, hb, run_underlying hu, getObj_map h5, hck, h7, setObj_map _ h5]) q1 q2 ⟨#[], rfl, rfl, by simp⟩
              · cases hdel
            · cases hdel
          · cases hdel
        · cases hdel
      · cases hdel
    · cases hdel
  · cases hr

/-! Slices. -/

theorem optN_spec {x : Option Operand} {n : Option Int} (hf : FrR w M θ σ π env a.tmps) (h : optN env x = some n) : x.map a.eval = n.map (Value.int .i64) := by
  cases x with
  | none => simp [optN] at h; subst h; rfl
  | some y =>
    simp only [optN] at h
    split at h
    · rename_i m hm
      simp at h; subst h
      simp [(lookV_sound hf hm).rep.int]
    · cases h

theorem sliceBounds_run {len cap : Nat} {lo hi mx : Option Int} {h l m : Nat} (hh : hi.getD len = h) (hl : lo.getD 0 = l) (hm : mx.getD cap = m) (h1 : l ≤ h) (h2 : h ≤ m) (h3 : m ≤ cap) (h4 : mx.isSome → hi.isSome) :
    (Instr.sliceBounds true len cap (lo.map (Value.int .i64)) (hi.map (Value.int .i64)) (mx.map (Value.int .i64))).run P w = .ok (l, h, m) w := by
  have b : ∀ (i : Nat) (y : Nat) (code : BoundsCode), i ≤ y → (Instr.sliceBound (.int .i64 (i : Int)) y code).run P w = .ok i w := by
    intro i y code hi
    have h5 : (0 : Int) ≤ i ∧ (i : Int) ≤ y := by omega
    simp [Instr.sliceBound, asIntOf]
    omega
  cases mx with
  | none =>
    obtain rfl : cap = m := by simp at hm; omega
    cases hi with
    | none =>
      simp at hh
      cases lo with
      | none => simp at hl; simp [Instr.sliceBounds]; omega
      | some l' => simp at hl; subst hl; have hh' : len = h := by omega
                   subst hh'; simp [Instr.sliceBounds, b l len _ h1]
    | some h' =>
      simp at hh; subst hh
      cases lo with
      | none => simp at hl; simp [Instr.sliceBounds, b h cap _ h2]; omega
      | some l' => simp at hl; subst hl; simp [Instr.sliceBounds, b h cap _ h2, b l h _ h1]
  | some m' =>
    simp at hm; subst hm
    cases hi with
    | none => simp at h4
    | some h' =>
      simp at hh; subst hh
      cases lo with
      | none => simp at hl; simp [Instr.sliceBounds, b m cap _ h3, b h m _ h2]; omega
      | some l' => simp at hl; subst hl; simp [Instr.sliceBounds, b m cap _ h3, b h m _ h2, b l h _ h1]

theorem slice_run {t e : TypeId} {s b : Nat} {ad : Option Addr} {len cap : Nat} {lo hi mx : Option Int} {h l m : Nat} (ht : elemT P t = some (e, s, b)) (hh : hi.getD len = h) (hl : lo.getD 0 = l) (hm : mx.getD cap = m)
    (h1 : l ≤ h) (h2 : h ≤ m) (h3 : m ≤ cap) (h4 : mx.isSome → hi.isSome) :
    (Instr.sliceAt t (.slice ad len cap) (lo.map (Value.int .i64)) (hi.map (Value.int .i64)) (mx.map (Value.int .i64))).run P w = .ok (.slice (if m = l then ad else ad.map (·.add (l * s))) (h - l) (m - l)) w := by
  obtain ⟨hu, i, hi1, hi2, _⟩ := elemT_spec ht
  simp [Instr.sliceAt, run_underlying hu, Instr.slice, sliceBounds_run (P := P) (w := w) hh hl hm h1 h2 h3 h4, sizeOf, typeInfo, hi1, hi2]

theorem sliceOf_sound {sz : Nat} {s r : AV} {lo hi mx : Option Int} {ad : Option Addr} {len cap : Nat} (hr : sliceOf sz s lo hi mx = some r) (hc : Cell M θ s (.slice ad len cap)) :
    ∃ h l m, hi.getD len = (h : Nat) ∧ lo.getD 0 = (l : Nat) ∧ mx.getD cap = (m : Nat) ∧ l ≤ h ∧ h ≤ m ∧ m ≤ cap ∧ (mx.isSome → hi.isSome) ∧
      Cell M θ r (.slice (if m = l then ad else ad.map (·.add (l * sz))) (h - l) (m - l)) := by
  unfold sliceOf at hr
  simp only at hr
  split at hr
  · rename_i full s' xs
    generalize hv : Value.slice ad len cap = u at hc
    cases hc with
    | list _ _ _ a0 cap0 u0 hcl hml hfl hsl hal hel =>
      cases hv
      split at hr
      · rename_i hsz
        have key : ∀ (l h m : Nat) (full' : Bool), l ≤ h → h ≤ xs.length → h ≤ m → m ≤ cap → (full' = true → m = h) →
            Cell M θ (.list full' s' ((xs.drop l).take (h - l))) (.slice (if m = l then ad else ad.map (·.add (l * sz))) (h - l) (m - l)) := by
          intro l h m full' h1 h2 h3 h4 h5
          have hlen : ((xs.drop l).take (h - l)).length = h - l := by simp; omega
          have := Cell.list (M := M) (θ := θ) full' s' ((xs.drop l).take (h - l)) (if m = l then ad else ad.map (·.add (l * sz))) (m - l) (fun i j => u0 (l + i) j) (by omega) (by omega) (fun hf => by have := h5 hf; omega)
            (fun x hx => hsl x (List.mem_of_mem_drop (List.mem_of_mem_take hx))) (fun hne => ?_) (fun i x hx j c hj => ?_)
          · rw [hlen] at this; exact this
          · have hpos : 0 < h - l := by
              rcases Nat.eq_zero_or_pos (h - l) with h0 | h0
              · exact absurd (List.eq_nil_of_length_eq_zero (by rw [hlen]; exact h0)) hne
              · exact h0
            have hxne : xs ≠ [] := by intro e; subst e; simp at h2; omega
            obtain ⟨g, o1, e1, hm⟩ := hal hxne
            subst e1
            have hml' : m ≠ l := by omega
            have hss : s' = sz := by
              rcases Bool.or_eq_true _ _ ▸ hsz with h6 | h6
              · simpa using h6
              · exact absurd (by simpa using h6) hxne
            subst hss
            refine ⟨g, o1 + l * s', by rw [if_neg hml']; simp [addr_add], fun i x hx j c hj => ?_⟩
            have hi : i < h - l := by rw [← hlen]; exact (List.getElem?_eq_some_iff.1 hx).1
            rw [List.getElem?_take_of_lt hi, List.getElem?_drop] at hx
            have := hm (l + i) x hx j c hj
            have e2 : o1 + l * s' + (i * s' + j) = o1 + ((l + i) * s' + j) := by rw [Nat.add_mul]; omega
            rw [e2]; exact this
          · have hi : i < h - l := by rw [← hlen]; exact (List.getElem?_eq_some_iff.1 hx).1
            rw [List.getElem?_take_of_lt hi, List.getElem?_drop] at hx
            exact hel (l + i) x hx j c hj
        cases mx with
        | none =>
          simp only at hr
          split at hr
          · rename_i hb
            cases hr
            obtain ⟨b1, b2, b3⟩ := hb
            refine ⟨(hi.getD xs.length).toNat, (lo.getD 0).toNat, cap, by omega, by omega, rfl, by omega, by omega, Nat.le_refl _, by simp, ?_⟩
            exact key _ _ cap _ (by omega) (by omega) (by omega) (Nat.le_refl _) (fun hf => by simp at hf; have := hfl hf.1; omega)
          · cases hr
        | some m =>
          simp only at hr
          split at hr
          · rename_i hb
            cases hr
            obtain ⟨b1, b2, b3, b4, b5⟩ := hb
            refine ⟨(hi.getD xs.length).toNat, (lo.getD 0).toNat, m.toNat, by omega, by omega, by simp; omega, by omega, by omega, by omega, fun _ => b5, ?_⟩
            exact key _ _ m.toNat _ (by omega) (by omega) (by omega) (by omega) (fun hf => by simpa using hf)
          · cases hr
      · cases hr
  · rename_i s' id gen off len0 lim
    generalize hv : Value.slice ad len cap = u at hc
    cases hc with
    | row _ _ _ _ _ _ a0 cap0 cap1 b0 ht h1 hg hm hb hcap ha =>
      cases hv
      split at hr
      · rename_i hsz
        have hss : s' = sz := by simpa using hsz
        subst hss
        have hcle : len ≤ cap := by subst hcap; split <;> omega
        have key : ∀ (l h m : Nat) (lim' : Bool), l ≤ h → h ≤ len → h ≤ m → m ≤ cap → (m - l = if lim' then h - l else cap1 - (off + l)) →
            Cell M θ (.row s' id gen (off + l) (h - l) lim') (.slice (if m = l then ad else ad.map (·.add (l * s'))) (h - l) (m - l)) := by
          intro l h m lim' k1 k2 k3 k4 k5
          refine .row s' id gen (off + l) (h - l) lim' _ (m - l) cap1 b0 ht (by omega) hg hm hb k5 ?_
          by_cases e : m = l
          · left; omega
          · right
            rcases ha with ha | ⟨g, hb0, ha⟩
            · omega
            · refine ⟨g, hb0, ?_⟩
              rw [if_neg e, ha]
              simp [addr_add, Nat.add_mul]
        cases mx with
        | none =>
          simp only at hr
          split at hr
          · rename_i hb'
            split at hr
            · cases hr
            rename_i hlim
            cases hr
            obtain ⟨b1, b2, b3⟩ := hb'
            refine ⟨(hi.getD len).toNat, (lo.getD 0).toNat, cap, by omega, by omega, rfl, by omega, by omega, Nat.le_refl _, by simp, ?_⟩
            refine key _ _ cap _ (by omega) (by omega) (by omega) (Nat.le_refl _) ?_
            cases lim with
            | false => simp at hcap ⊢; omega
            | true =>
              simp at hcap hlim ⊢
              omega
          · cases hr
        | some m =>
          simp only at hr
          split at hr
          · rename_i hb'
            split at hr
            · rename_i hmh
              cases hr
              obtain ⟨b1, b2, b3, b4, b5⟩ := hb'
              simp only [beq_iff_eq] at hmh
              refine ⟨(hi.getD len).toNat, (lo.getD 0).toNat, m.toNat, by omega, by omega, by simp; omega, by omega, by omega, by omega, fun _ => b5, ?_⟩
              exact key _ _ m.toNat true (by omega) (by omega) (by omega) (by omega) (by simp; omega)
            · cases hr
          · cases hr
      · cases hr
  · cases hr

end
end Go.Can

namespace Go.Can
open Go Go.RowKit
section
variable {P : Program} {w : World} {M : Mem} {θ : Th} {σ : St} {π : Nat → Option Nat} {env : Env} {o : Oper} {a : Act}

theorem op_slice {t e : TypeId} {sz bytes : Nat} {x : Operand} {lo hi mx : Option Operand} {l h m : Option Int} {s r : AV} (hs : StR w M θ σ) (hf : FrR w M θ σ π env a.tmps) (hd : okDst env o.dst = true) (ho : o.op = .slice t x lo hi mx)
    (ht : elemT P t = some (e, sz, bytes)) (hx : lookV env x = some s) (hl : optN env lo = some l) (hh : optN env hi = some h) (hm : optN env mx = some m) (hr : sliceOf sz s l h m = some r) : OpS P w M θ σ π o a env σ (.val r) := by
  have hv := lookV_sound hf hx
  have hc : ∃ ad len cap, a.eval x = .slice ad len cap ∧ Cell M θ s (.slice ad len cap) := by
    unfold sliceOf at hr
    simp only at hr
    split at hr
    · obtain ⟨ad, cap, e1⟩ := hv.rep.list
      exact ⟨ad, _, cap, e1, by rw [← e1]; exact hv⟩
    · obtain ⟨ad, cap, e1⟩ := hv.rep.row
      exact ⟨ad, _, cap, e1, by rw [← e1]; exact hv⟩
    · cases hr
  obtain ⟨ad, len, cap, e1, hc⟩ := hc
  obtain ⟨h', l', m', g1, g2, g3, g4, g5, g6, g7, g8⟩ := sliceOf_sound hr hc
  have hrun := slice_run (P := P) (w := w) (ad := ad) ht g1 g2 g3 g4 g5 g6 g7
  refine .sameV (u := .slice (if m' = l' then ad else ad.map (·.add (l' * sz))) (h' - l') (m' - l')) hs hf hd ?_ g8.rep
  simp only [execOp, ho, optN_spec hf hl, optN_spec hf hh, optN_spec hf hm, e1, Sem.run_bind, hrun]
  rfl

theorem op_indexAddr {t e : TypeId} {sz bytes : Nat} {x y : Operand} {s : AV} {k : IntKind} {n : Int} {len : Nat} (hs : StR w M θ σ) (hf : FrR w M θ σ π env a.tmps) (hd : okDst env o.dst = true) (ho : o.op = .indexAddr t x y)
    (ht : elemT P t = some (e, sz, bytes)) (hx : lookV env x = some s) (hy : lookV env y = some (.int k n)) (hsl : (∃ f s' xs, s = .list f s' xs ∧ xs.length = len) ∨ ∃ s' id gen off lim, s = .row s' id gen off len lim) (h0 : 0 ≤ n) (h1 : n < len) :
    OpS P w M θ σ π o a env σ (.val (.elm s sz n.toNat 0)) := by
  have hv := lookV_sound hf hx
  have hn := (lookV_sound hf hy).rep.int
  obtain ⟨hu, i, hi1, hi2, _⟩ := elemT_spec ht
  have hc : ∃ g o1 cap, a.eval x = .slice (some ⟨g, o1, none⟩) len cap ∧ Cell M θ s (.slice (some ⟨g, o1, none⟩) len cap) := by
    rcases hsl with ⟨f, s', xs, rfl, rfl⟩ | ⟨s', id, gen, off, lim, rfl⟩
    · have hv' : Cell M θ (.list f s' xs) (a.eval x) := hv
      generalize he : a.eval x = u at hv'
      cases hv' with
      | list _ _ _ a0 cap0 u0 hcl hml hfl hsl hal hel =>
        have hne : xs ≠ [] := by intro e; subst e; simp at h1; omega
        obtain ⟨g, o1, rfl, _⟩ := hal hne
        exact ⟨g, o1, cap0, rfl, by rw [← he]; exact hv⟩
    · have hv' : Cell M θ (.row s' id gen off len lim) (a.eval x) := hv
      generalize he : a.eval x = u at hv'
      cases hv' with
      | row _ _ _ _ _ _ a0 cap0 cap1 b0 ht h1' hg hm hb hcap ha =>
        rcases ha with ha | ⟨g, hb0, ha⟩
        · exfalso; subst hcap; split at ha <;> omega
        · exact ⟨g, _, cap0, by rw [ha], by rw [← ha, ← he]; exact hv⟩
  obtain ⟨g, o1, cap, e1, hc⟩ := hc
  refine .sameV (u := .pointer (some ⟨g, o1 + (n.toNat * sz + 0), none⟩)) hs hf hd ?_ (Cell.elm s sz n.toNat 0 g o1 len cap hc (by omega)).rep
  simp [execOp, ho, Instr.indexAt, hn, asIntOf, run_underlying hu, e1, sizeOf, typeInfo, hi1, hi2, addr_add]
  omega

theorem op_makeFunc {f : FuncId} {fi ca : Array Operand} {vs us : List AV} (hs : StR w M θ σ) (hf : FrR w M θ σ π env a.tmps) (hd : okDst env o.dst = true) (ho : o.op = .makeFunc (.func f) fi ca)
    (h1 : lookVs env fi.toList = some vs) (h2 : lookVs env ca.toList = some us) (n1 : vs.all fun v => match v with | .agg _ => false | _ => true) (n2 : us.all fun v => match v with | .agg _ => false | _ => true) : OpS P w M θ σ π o a env σ (.val (.fn f vs us)) := by
  have key : ∀ {xs : Array Operand} {vs : List AV}, lookVs env xs.toList = some vs → (vs.all fun v => match v with | .agg _ => false | _ => true) = true → (xs.map a.eval).size = vs.length ∧ ∀ i c, vs[i]? = some c → Cell M θ c ((xs.map a.eval).getD i undef) := by
    intro xs vs h n
    obtain ⟨e1, e2⟩ := lookVs_sound hf h
    refine ⟨by simp [e1], fun i c hc => ?_⟩
    have hi : i < xs.size := by have := (List.getElem?_eq_some_iff.1 hc).1; rw [e1] at this; simpa using this
    have hx : xs.toList[i]? = some xs[i] := by simp [hi]
    have hr := e2 i c _ hc hx
    have hn := List.all_eq_true.1 n c (List.mem_of_getElem? hc)
    have : (xs.map a.eval).getD i undef = a.eval xs[i] := by simp [Array.getD_eq_getD_getElem?, hi]
    rw [this]
    exact hr.cell (fun cs e => by subst e; simp at hn)
  exact .sameV (u := .func (.func f) (fi.map a.eval) (ca.map a.eval)) hs hf hd (by simp [execOp, ho, Instr.makeFunc]) (Cell.fn f vs us _ _ (key h1 n1).1 (key h2 n2).1 (key h1 n1).2 (key h2 n2).2).rep

/-! Literals. -/

theorem foldl_set (vs : List Value) : ∀ (k off : Nat) (cs : Array Value), ((vs.zipIdx k).foldl (fun cs (p : Value × Nat) => cs.setIfInBounds (off + p.2) p.1) cs).size = cs.size ∧
    ∀ i, ((vs.zipIdx k).foldl (fun cs (p : Value × Nat) => cs.setIfInBounds (off + p.2) p.1) cs)[i]? = if off + k ≤ i ∧ i < off + k + vs.length ∧ i < cs.size then vs[i - (off + k)]? else cs[i]? := by
  induction vs with
  | nil => intro k off cs; refine ⟨rfl, fun i => ?_⟩; rw [if_neg (by simp; omega)]; rfl
  | cons v vs ih =>
    intro k off cs
    simp only [List.zipIdx_cons, List.foldl_cons]
    obtain ⟨h1, h2⟩ := ih (k + 1) off (cs.setIfInBounds (off + k) v)
    refine ⟨by rw [h1]; simp, fun i => ?_⟩
    rw [h2]
    simp only [Array.size_setIfInBounds, List.length_cons]
    by_cases c1 : off + (k + 1) ≤ i ∧ i < off + (k + 1) + vs.length ∧ i < cs.size
    · rw [if_pos c1, if_pos (by omega)]
      have : i - (off + k) = (i - (off + (k + 1))) + 1 := by omega
      rw [this]; simp
    · rw [if_neg c1]
      by_cases c2 : i = off + k ∧ i < cs.size
      · rw [if_pos (by omega)]
        have : i - (off + k) = 0 := by omega
        rw [this, ← c2.1]
        simp [c2.2]
      · by_cases c3 : off + k ≤ i ∧ i < off + k + (vs.length + 1) ∧ i < cs.size
        · omega
        · rw [if_neg c3]
          by_cases c4 : off + k = i
          · subst c4
            have : ¬ off + k < cs.size := by omega
            simp [this]
          · simp [Array.getElem?_setIfInBounds, c4]

theorem fill_step {cs cs' : List AV} {v : AV} {cur : Array Value} {u : Value} {off : Nat} (h : splice cs off v.cells = some cs') (hc : CellsR M θ cs cur) (hu : RepA M θ v u) :
    u.cells.size = v.cells.length ∧ off + u.cells.size ≤ cur.size ∧ CellsR M θ cs' (u.cells.zipIdx.foldl (fun cs (p : Value × Nat) => cs.setIfInBounds (off + p.2) p.1) cur) := by
  have h1 := hu.cells
  obtain ⟨h2, h3, h4⟩ := splice_spec h
  have h5 := splice_cells h hc h1
  have e : u.cells.zipIdx.foldl (fun cs (p : Value × Nat) => cs.setIfInBounds (off + p.2) p.1) cur = (cur.toList.take off ++ u.cells.toList ++ cur.toList.drop (off + u.cells.toList.length)).toArray := by
    rw [← Array.foldl_toList, Array.toList_zipIdx]
    obtain ⟨k1, k2⟩ := foldl_set u.cells.toList 0 off cur
    apply Array.ext_getElem?
    intro i
    rw [k2]
    conv => rhs; rw [List.getElem?_toArray, getElem?_splice (by simp only [Array.length_toList, h1.1, hc.1]; exact h2)]
    simp only [Nat.add_zero, Array.length_toList, h1.1, hc.1, Array.getElem?_toList]
    by_cases c1 : i < off
    · rw [if_neg (by omega), if_pos c1]
    · rw [if_neg c1]
      by_cases c2 : i < off + v.cells.length
      · rw [if_pos (by omega), if_pos c2]
      · rw [if_neg (by omega), if_neg c2]
  exact ⟨h1.1, by rw [h1.1, hc.1]; exact h2, by rw [e]; exact h5⟩

theorem fill_sound {place place' : Nat → Option (Nat × Nat)} (hp : ∀ i x, place i = some x → place' i = some x) : ∀ {ps : List (Nat × AV)} {us : List (Nat × Value)} {cs cs' : List AV} {cur : Array Value}, fillA place cs ps = some cs' → CellsR M θ cs cur →
    us.length = ps.length → (∀ (i : Nat) (k : Nat) (v : AV), ps[i]? = some (k, v) → ∃ u, us[i]? = some (k, u) ∧ RepA M θ v u) → ∃ cur', Instr.fill place' cur us = some cur' ∧ CellsR M θ cs' cur'
  | [], us, cs, cs', cur, h, hc, hl, _ => by
    have : us = [] := List.eq_nil_of_length_eq_zero (by simpa using hl)
    subst this
    simp only [fillA] at h; cases h
    exact ⟨cur, rfl, hc⟩
  | (k, v) :: ps, us, cs, cs', cur, h, hc, hl, hu => by
    cases us with
    | nil => simp at hl
    | cons p us =>
      obtain ⟨u, h1, h2⟩ := hu 0 k v rfl
      simp at h1; subst h1
      simp only [fillA] at h
      split at h
      · cases h
      · rename_i off size hpl
        split at h
        · rename_i hsz
          split at h
          · rename_i cs1 hsp
            obtain ⟨g1, g2, g3⟩ := fill_step hsp hc h2
            obtain ⟨cur', g4, g5⟩ := fill_sound hp h g3 (by simpa using hl) (fun i k' v' hi => by simpa using hu (i + 1) k' v' (by simpa using hi))
            refine ⟨cur', ?_, g5⟩
            simp only [Instr.fill, hp _ _ hpl]
            have hsz' : v.cells.length = size := by simpa using hsz
            rw [if_neg (by simp only [Bool.or_eq_true, decide_eq_true_eq, not_or]; first | omega | (refine ⟨?_, ?_⟩ <;> (try simp) <;> omega))]
            exact g4
          · cases h
        · cases h

theorem lookParts_sound (hf : FrR w M θ σ π env a.tmps) : ∀ {xs : List (Nat × Operand)} {vs : List (Nat × AV)}, lookParts env xs = some vs →
    vs.length = xs.length ∧ ∀ (i : Nat) (k : Nat) (v : AV), vs[i]? = some (k, v) → ∃ x : Operand, xs[i]? = some (k, x) ∧ RepA M θ v (a.eval x)
  | [], vs, e => by cases e; simp
  | (k, x) :: xs, vs, e => by
    unfold lookParts at e
    split at e
    · rename_i v vs' h1 h2
      cases e
      have ih := lookParts_sound hf h2
      refine ⟨by simp [ih.1], fun i k' v' hv => ?_⟩
      cases i with
      | zero => simp at hv; obtain ⟨rfl, rfl⟩ := hv; exact ⟨x, rfl, lookV_sound hf h1⟩
      | succ i => simp at hv; simpa using ih.2 i k' v' hv
    · cases e

theorem zeroOf_spec {t : TypeId} {z : AV} (h : zeroOf P t = some z) : ∃ i zv, P.info? t = some i ∧ i.zero = some zv ∧ ofV zv = some z := by
  unfold zeroOf at h
  cases hi : P.info? t with
  | none => rw [hi] at h; cases h
  | some i =>
    rw [hi] at h
    cases hi2 : i.zero with
    | none => simp [hi2] at h
    | some zv => exact ⟨i, zv, rfl, hi2, by simpa [hi2] using h⟩

theorem mapM_sizes : ∀ {fs : List Field} , (∀ f ∈ fs, ∃ s, szOf P f.type = some s) → (fs.mapM (fun f => (do pure (f.offset, ← sizeOf f.type) : Sem (Nat × Nat)))).run P w = .ok (fs.map fun f => (f.offset, (szOf P f.type).getD 0)) w
  | [], _ => by simp
  | f :: fs, h => by
    obtain ⟨s, hs⟩ := h f (by simp)
    have ih := mapM_sizes (fs := fs) (fun g hg => h g (by simp [hg]))
    simp only [List.mapM_cons, Sem.run_bind, szOf_run hs, Result.andThen_ok, Sem.run_pure, ih]
    simp [hs]

end
end Go.Can

namespace Go.Can
open Go Go.RowKit
section
variable {P : Program} {w : World} {M : Mem} {θ : Th} {σ : St} {π : Nat → Option Nat} {env : Env} {o : Oper} {a : Act}

theorem op_build {t : TypeId} {ps : Array (Nat × Operand)} {vs : List (Nat × AV)} {v : AV} (hs : StR w M θ σ) (hf : FrR w M θ σ π env a.tmps) (hd : okDst env o.dst = true) (ho : o.op = .build t ps)
    (hx : lookParts env ps.toList = some vs) (hb : buildA P t vs = some v) : OpS P w M θ σ π o a env σ (.val v) := by
  obtain ⟨h1, h2⟩ := lookParts_sound hf hx
  have hu : ∀ (i : Nat) (k : Nat) (v : AV), vs[i]? = some (k, v) → ∃ u, ((ps.map fun (i, x) => (i, a.eval x)).toList)[i]? = some (k, u) ∧ RepA M θ v u := by
    intro i k v hi
    obtain ⟨x, h3, h4⟩ := h2 i k v hi
    have h3' : ps[i]? = some (k, x) := by simpa using h3
    exact ⟨a.eval x, by simp [h3'], h4⟩
  have hl : ((ps.map fun (i, x) => (i, a.eval x)).toList).length = vs.length := by simp [h1]
  unfold buildA at hb
  split at hb
  · rename_i fs z hfs hz
    split at hb
    · rename_i hall
      obtain ⟨i, zv, z1, z2, z3⟩ := zeroOf_spec hz
      have hall' : ∀ f ∈ fs.toList, ∃ s, szOf P f.type = some s := fun f hf => Option.isSome_iff_exists.1 (List.all_eq_true.1 hall f hf)
      have hm := mapM_sizes (P := P) (w := w) hall'
      cases e : fillA (placeA P fs) z.cells vs with
      | none => rw [e] at hb; cases hb
      | some cs =>
        rw [e] at hb; cases hb
        obtain ⟨cur, h5, h6⟩ := fill_sound (place' := fun i => ((fs.toList.map fun f => (f.offset, (szOf P f.type).getD 0)).toArray)[i]?) (fun i x hx => by
          unfold placeA at hx
          split at hx
          · rename_i f hf
            cases hsz : szOf P f.type with
            | none => rw [hsz] at hx; cases hx
            | some s => rw [hsz] at hx; cases hx; simp [hf, hsz]
          · cases hx) e (ofV_sound z3 M θ).cells hl hu
        refine .sameV (u := .agg cur) hs hf hd ?_ (RepA.rep ⟨cur, rfl, h6⟩)
        have hplaces : (fs.mapM (fun f => (do pure (f.offset, ← sizeOf f.type) : Sem (Nat × Nat)))).run P w = .ok (fs.toList.map fun f => (f.offset, (szOf P f.type).getD 0)).toArray w := by
          rw [Array.mapM_eq_mapM_toList, Sem.run_map, hm]; rfl
        simp only [execOp, ho, Instr.build, Sem.run_bind, zeroValue, typeInfo, run_program, Result.andThen_ok, z1, z2, Sem.run_pure, run_underlying hfs]
        rw [hplaces]
        simp only [Result.andThen_ok, h5, Sem.run_pure]
    · cases hb
  · rename_i n e z hfs hz
    split at hb
    · rename_i s hsz
      obtain ⟨i, zv, z1, z2, z3⟩ := zeroOf_spec hz
      cases e1 : fillA (fun i => some (i * s, s)) z.cells vs with
      | none => rw [e1] at hb; cases hb
      | some cs =>
        rw [e1] at hb; cases hb
        obtain ⟨cur, h5, h6⟩ := fill_sound (place' := fun i => some (i * s, s)) (fun i x hx => hx) e1 (ofV_sound z3 M θ).cells hl hu
        refine .sameV (u := .agg cur) hs hf hd ?_ (RepA.rep ⟨cur, rfl, h6⟩)
        simp only [execOp, ho, Instr.build, Sem.run_bind, zeroValue, typeInfo, run_program, Result.andThen_ok, z1, z2, Sem.run_pure, run_underlying hfs, szOf_run hsz, h5]
    · cases hb
  · cases hb

theorem listA_fill {sz : Nat} : ∀ {vs : List (Nat × AV)} {us : List (Nat × Value)} {n : Nat} {xs : List AV} {cur : Array Value}, listA sz n vs = some xs → us.length = vs.length →
    (∀ (i : Nat) (k : Nat) (v : AV), vs[i]? = some (k, v) → ∃ u, us[i]? = some (k, u) ∧ RepA M θ v u) → (n + vs.length) * sz ≤ cur.size →
    ∃ cur', Instr.fill (fun i => some (i * sz, sz)) cur us = some cur' ∧ cur'.size = cur.size ∧ xs.length = vs.length ∧ (∀ x ∈ xs, x.cells.length = sz) ∧ (∀ p, p < n * sz → cur'[p]? = cur[p]?) ∧
      ∀ i x, xs[i]? = some x → ∀ j c, x.cells[j]? = some c → Cell M θ c (cur'.getD ((n + i) * sz + j) undef)
  | [], us, n, xs, cur, h, hl, hu, hb => by
    have : us = [] := List.eq_nil_of_length_eq_zero (by simpa using hl)
    subst this
    simp only [listA] at h; cases h
    exact ⟨cur, rfl, rfl, rfl, by simp, fun _ _ => rfl, by simp⟩
  | (k, v) :: vs, us, n, xs, cur, h, hl, hu, hb => by
    cases us with
    | nil => simp at hl
    | cons p us =>
      obtain ⟨u, h1, h2⟩ := hu 0 k v rfl
      simp at h1; subst h1
      simp only [listA] at h
      split at h
      · rename_i hc
        simp only [Bool.and_eq_true, beq_iff_eq] at hc
        obtain ⟨rfl, hsz⟩ := hc
        cases e : listA sz (k + 1) vs with
        | none => rw [e] at h; cases h
        | some xs' =>
          rw [e] at h; cases h
          have hcu := h2.cells
          have hus : u.cells.size = sz := by rw [hcu.1, hsz]
          obtain ⟨f1, f2⟩ := foldl_set u.cells.toList 0 (k * sz) cur
          have hb1 : (k + 1 + vs.length) * sz ≤ cur.size := by
            have : k + 1 + vs.length = k + (vs.length + 1) := by omega
            rw [this]; simpa using hb
          have hb2 : k * sz + sz ≤ cur.size := by
            have h3 : (k + 1) * sz ≤ (k + 1 + vs.length) * sz := Nat.mul_le_mul_right _ (by omega)
            rw [Nat.add_mul k 1, Nat.one_mul] at h3; omega
          have e2 : u.cells.zipIdx.foldl (fun cs (p : Value × Nat) => cs.setIfInBounds (k * sz + p.2) p.1) cur = (u.cells.toList.zipIdx 0).foldl (fun cs (p : Value × Nat) => cs.setIfInBounds (k * sz + p.2) p.1) cur := by
            rw [← Array.foldl_toList, Array.toList_zipIdx]
          obtain ⟨cur', g1, g2, g3, g4, g5, g6⟩ := listA_fill (cur := (u.cells.toList.zipIdx 0).foldl (fun cs (p : Value × Nat) => cs.setIfInBounds (k * sz + p.2) p.1) cur) e (by simpa using hl)
            (fun i k' v' hi => by simpa using hu (i + 1) k' v' (by simpa using hi)) (by rw [f1]; exact hb1)
          refine ⟨cur', ?_, by rw [g2, f1], by simp [g3], fun x hx => ?_, fun p hp => ?_, fun i x hx j c hj => ?_⟩
          · simp only [Instr.fill]
            rw [if_neg (by simp only [ne_eq, Bool.or_eq_true, decide_eq_true_eq, not_or, Decidable.not_not]; omega), ← g1, ← e2]
          · rcases List.mem_cons.1 hx with rfl | hx
            · exact hsz
            · exact g4 x hx
          · rw [g5 p (by rw [Nat.add_mul]; omega), f2, if_neg (by omega)]
          · cases i with
            | zero =>
              simp at hx; subst hx
              have hj' : j < sz := by rw [← hsz]; exact (List.getElem?_eq_some_iff.1 hj).1
              have hjl : j < u.cells.size := by omega
              have e3 : cur'.getD ((k + 0) * sz + j) undef = u.cells.getD j undef := by
                simp only [Array.getD_eq_getD_getElem?, Nat.add_zero]
                rw [g5 _ (by rw [Nat.add_mul]; omega), f2, if_pos (by simp only [Array.length_toList]; omega)]
                have : k * sz + j - (k * sz + 0) = j := by omega
                rw [this, Array.getElem?_toList]
              rw [e3]; exact hcu.2 j c hj
            | succ i =>
              have e4 : k + (i + 1) = k + 1 + i := by omega
              rw [e4]; exact g6 i x (by simpa using hx) j c hj
      · cases h

/-- A new block that nobody will write. -/
theorem mem_new {cur : Array Value} {e : TypeId} (hs : StR w M θ σ) : Ext0 w M θ σ (w.alloc (.cells cur e)) (fun g o => if g = w.heap.size then cur[o]? else M g o) θ σ ∧
    StR (w.alloc (.cells cur e)) (fun g o => if g = w.heap.size then cur[o]? else M g o) θ σ := by
  have hmlt : ∀ g o v, M g o = some v → g < w.heap.size := fun g o v e => World.block_lt_of_cell? w _ (hs.mem g o v e)
  have hle : M.le (fun g o => if g = w.heap.size then cur[o]? else M g o) := fun g o v h => by
    have := hmlt g o v h
    show (if g = w.heap.size then cur[o]? else M g o) = some v
    rw [if_neg (by omega)]; exact h
  have hk : ∀ k, k < w.heap.size → (w.alloc (.cells cur e)).heap[k]? = w.heap[k]? := fun k h => Below.heap_alloc w _ k h
  refine ⟨⟨rfl, rfl, rfl, by simp, hle, θ.le_refl, fun g hg _ _ => hk g hg, fun _ h => .inl h, fun _ _ h => by simp at h, fun g o v h => ?_⟩, ⟨fun g o v h => ?_, fun id x hx => ?_, hs.dis, fun g ho o => ?_, hs.far⟩⟩
  · have h : (if g = w.heap.size then cur[o]? else M g o) = some v := h
    split at h
    · rename_i e1; exact .inr (.inl (by omega))
    · exact .inl h
  · have h : (if g = w.heap.size then cur[o]? else M g o) = some v := h
    split at h
    · rename_i e1; subst e1
      rw [cell_of_row _ _ _ cur e (0, 0) (heap_new w _)]; simpa using h
    · have := hs.mem g o v h
      have hlt := hmlt g o v h
      simpa [World.cell?, hk g hlt] using this
  · exact (hs.ob id x hx).keep hle hx (fun g hg => hk g (hg.lt hs))
  · obtain ⟨i, hi⟩ := ho
    have hlt := hi.lt hs
    show (if g = w.heap.size then cur[o]? else M g o) = none
    rw [if_neg (by omega)]; exact hs.out g ⟨i, hi⟩ o

theorem op_buildSlice {t e : TypeId} {n sz bytes : Nat} {ps : Array (Nat × Operand)} {vs : List (Nat × AV)} {xs : List AV} (hs : StR w M θ σ) (hf : FrR w M θ σ π env a.tmps) (hd : okDst env o.dst = true) (ho : o.op = .buildSlice t n ps)
    (ht : elemT P t = some (e, sz, bytes)) (hx : lookParts env ps.toList = some vs) (hn : vs.length = n) (hlim : n * sz ≤ 16777216) (hz : (zeroOf P e).isSome = true) (hsz0 : 0 < sz) (hl : listA sz 0 vs = some xs) :
    OpS P w M θ σ π o a env σ (.val (.list true sz xs)) := by
  obtain ⟨h1, h2⟩ := lookParts_sound hf hx
  obtain ⟨hu, i, hi1, hi2, hi3⟩ := elemT_spec ht
  obtain ⟨z, hz⟩ := Option.isSome_iff_exists.1 hz
  obtain ⟨i', zv, z1, z2, z3⟩ := zeroOf_spec hz
  rw [hi1] at z1; cases z1
  have hu' : ∀ (i : Nat) (k : Nat) (v : AV), vs[i]? = some (k, v) → ∃ u, ((ps.map fun (i, x) => (i, a.eval x)).toList)[i]? = some (k, u) ∧ RepA M θ v u := by
    intro i k v hi
    obtain ⟨x, h3, h4⟩ := h2 i k v hi
    have h3' : ps[i]? = some (k, x) := by simpa using h3
    exact ⟨a.eval x, by simp [h3'], h4⟩
  have hl' : ((ps.map fun (i, x) => (i, a.eval x)).toList).length = vs.length := by simp [h1]
  have key : ∀ zero : Array Value, ∃ cur', Instr.fill (fun i => some (i * sz, sz)) ((Array.range (n * sz)).map (zero[· % zero.size]!)) (ps.map fun (i, x) => (i, a.eval x)).toList = some cur' ∧ cur'.size = n * sz ∧ xs.length = vs.length ∧ (∀ x ∈ xs, x.cells.length = sz) ∧
      ∀ i x, xs[i]? = some x → ∀ j c, x.cells[j]? = some c → Cell M θ c (cur'.getD ((0 + i) * sz + j) undef) := by
    intro zero
    obtain ⟨cur', g1, g2, g3, g4, g5, g6⟩ := listA_fill (M := M) (θ := θ) (cur := (Array.range (n * sz)).map (zero[· % zero.size]!)) hl hl' hu' (by simp [hn])
    exact ⟨cur', g1, by simpa using g2, g3, g4, g6⟩
  have fin : ∀ cur' : Array Value, cur'.size = n * sz → xs.length = vs.length → (∀ x ∈ xs, x.cells.length = sz) → (∀ i x, xs[i]? = some x → ∀ j c, x.cells[j]? = some c → Cell M θ c (cur'.getD ((0 + i) * sz + j) undef)) →
      (execOp a.eval o).run P w = .ok (.value (.slice (some ⟨w.heap.size, 0, none⟩) n n)) (w.alloc (.cells cur' e)) → OpS P w M θ σ π o a env σ (.val (.list true sz xs)) := by
    intro cur' k1 k2 k3 k4 hrun
    obtain ⟨q1, q2⟩ := mem_new (cur := cur') (e := e) hs
    refine .goV hf hd hrun q1 q2 (Cell.rep ?_)
    have hln : xs.length = n := by omega
    have := Cell.list (M := fun g o => if g = w.heap.size then cur'[o]? else M g o) (θ := θ) true sz xs (some ⟨w.heap.size, 0, none⟩) n (fun i j => cur'.getD (i * sz + j) undef) (by omega) (by
        have : n * 1 ≤ n * sz := Nat.mul_le_mul_left _ hsz0
        simp only [maxLen]; omega) (fun _ => hln.symm) k3 (fun _ => ⟨w.heap.size, 0, rfl, fun i x hx j c hj => ?_⟩) (fun i x hx j c hj => ?_)
    · rw [hln] at this; exact this
    · have hj' : j < sz := by rw [← k3 x (List.mem_of_getElem? hx)]; exact (List.getElem?_eq_some_iff.1 hj).1
      have hi' : i < n := by rw [← hln]; exact (List.getElem?_eq_some_iff.1 hx).1
      have hb : i * sz + j < cur'.size := by
        rw [k1]
        have h6 : i * sz + j < (i + 1) * sz := by rw [Nat.add_mul]; omega
        exact Nat.lt_of_lt_of_le h6 (Nat.mul_le_mul_right _ (by omega))
      simp [Array.getD_eq_getD_getElem?, hb]
    · have := k4 i x hx j c hj
      rw [Nat.zero_add] at this
      exact this.mono q1.m θ.le_refl
  have hlim' : ¬ (n * sz > 2 ^ 24) := by omega
  by_cases h0 : n * sz = 0
  · obtain ⟨cur', g1, g2, g3, g4, g6⟩ := key #[]
    refine fin cur' g2 g3 g4 g6 ?_
    simp only [execOp, ho, Instr.buildSlice, Sem.run_bind, run_underlying hu, Result.andThen_ok, sizeOf, typeInfo, run_program, hi1, hi2, Sem.run_pure, if_neg hlim', if_pos h0]
    rw [g1]
    simp [newRow]
  · obtain ⟨cur', g1, g2, g3, g4, g6⟩ := key zv.cells
    refine fin cur' g2 g3 g4 g6 ?_
    simp only [execOp, ho, Instr.buildSlice, Sem.run_bind, run_underlying hu, Result.andThen_ok, sizeOf, typeInfo, run_program, hi1, hi2, Sem.run_pure, if_neg hlim', if_neg h0, zeroValue, z2]
    rw [g1]
    simp [newRow]

end
end Go.Can

namespace Go.Can
open Go Go.RowKit
section
variable {P : Program} {w : World} {M : Mem} {θ : Th} {σ : St} {π : Nat → Option Nat} {env : Env} {o : Oper} {a : Act}

theorem slice_some {s : AV} {sz : Nat} {ys : List AV} {ad : Option Addr} {len cap : Nat} (hc : Cell M θ s (.slice ad len cap)) (he : elems σ sz s = some ys) (hl : 0 < len) : ∃ g o, ad = some ⟨g, o, none⟩ := by
  generalize hv : Value.slice ad len cap = u at hc
  cases hc with
  | list f s' xs a0 cap0 u0 hcl hml hfl hsl hal hel =>
    cases hv
    have hne : xs ≠ [] := by intro e; subst e; simp at hl
    obtain ⟨g, o, e, _⟩ := hal hne
    exact ⟨g, o, e⟩
  | row s' id gen off len' lim a0 cap0 cap1 b0 ht h1 hg hm hb hcap ha =>
    cases hv
    rcases ha with ha | ⟨g, _, ha⟩
    · exfalso; subst hcap; split at ha <;> omega
    · exact ⟨g, _, ha⟩
  | _ => cases hv

theorem elems_read {s : AV} {sz : Nat} {ys : List AV} {ad : Option Addr} {len cap : Nat} (hs : StR w M θ σ) (hc : Cell M θ s (.slice ad len cap)) (he : elems σ sz s = some ys) (hsz : 0 < sz) :
    ys.length = len ∧ (∀ y ∈ ys, y.cells.length = sz) ∧ ∃ news : List Value, news.length = len * sz ∧ (∀ w', w'.heap = w.heap → (Builtin.firstCells sz len (.slice ad len cap)).run P w' = .ok news.toArray w') ∧ RowR M θ sz ys news.toArray ∧ ∀ u ∈ news, u.oneCell' = true := by
  have hlen : ys.length = len ∧ ∀ y ∈ ys, y.cells.length = sz := by
    have he' := he
    unfold elems at he'
    generalize hv : Value.slice ad len cap = u at hc
    split at he'
    · rename_i f s' xs
      split at he'
      · rename_i hcond
        cases he'
        cases hc with
        | list _ _ _ a0 cap0 u0 hcl hml hfl hsl hal hel =>
          cases hv
          refine ⟨rfl, fun y hy => ?_⟩
          rcases Bool.or_eq_true _ _ ▸ hcond with h6 | h6
          · rw [← (by simpa using h6 : s' = sz)]; exact hsl y hy
          · have : ys = [] := by simpa using h6
            subst this; simp at hy
      · cases he'
    · rename_i s' id gen off len' lim
      split at he'
      · rename_i s2 xs hob
        split at he'
        · rename_i hcond
          simp only [Bool.and_eq_true, beq_iff_eq] at hcond
          cases he'
          cases hc with
          | row _ _ _ _ _ _ a0 cap0 cap1 b0 ht h1 hg hm hb hcap ha =>
            cases hv
            obtain ⟨_, _, _, k4, b, cap2, k5, _⟩ := hs.ob _ _ hob
            rw [hcond.2, k5] at ht
            simp only [Option.some.injEq, Prod.mk.injEq] at ht
            refine ⟨by simp; omega, fun y hy => ?_⟩
            rw [← hcond.1, ← ht.2.2]
            exact k4 y (List.mem_of_mem_drop (List.mem_of_mem_take hy))
        · cases he'
      · cases he'
    · cases he'
  refine ⟨hlen.1, hlen.2, ?_⟩
  rcases Nat.eq_zero_or_pos len with h0 | h0
  · subst h0
    have : ys = [] := List.eq_nil_of_length_eq_zero hlen.1
    subst this
    refine ⟨[], by simp, fun w' _ => ?_, fun i x hx => by simp at hx, by simp⟩
    cases ad <;> simp [Builtin.firstCells, loadCells, loadCellsFrom]
  · obtain ⟨g, o1, rfl⟩ := slice_some hc he h0
    have cellAt : ∀ p, p < len * sz → ∃ c u, (∃ y, ys[p / sz]? = some y ∧ y.cells[p % sz]? = some c) ∧ w.cell? ⟨g, o1 + p, none⟩ = some u ∧ Cell M θ c u := by
      intro p hp
      have hi : p / sz < len := Nat.div_lt_of_lt_mul (by rw [Nat.mul_comm]; exact hp)
      have hj : p % sz < sz := Nat.mod_lt _ hsz
      have hy : ys[p / sz]? = some ys[p / sz] := List.getElem?_eq_getElem (by omega)
      have hcl := hlen.2 _ (List.mem_of_getElem? hy)
      have hcc : (ys[p / sz]).cells[p % sz]? = some (ys[p / sz]).cells[p % sz] := List.getElem?_eq_getElem (by omega)
      obtain ⟨u, h1, h2⟩ := elm_cells hs hc hi he hy _ _ hcc
      refine ⟨_, u, ⟨_, hy, hcc⟩, ?_, h2⟩
      have : o1 + p = o1 + p / sz * sz + p % sz := by have := Nat.div_add_mod p sz; rw [Nat.mul_comm] at this; omega
      rw [this]; exact h1
    let news : List Value := (List.range (len * sz)).map fun p => (w.cell? ⟨g, o1 + p, none⟩).getD undef
    have hnl : news.length = len * sz := by simp [news]
    have hnp : ∀ p, p < len * sz → news[p]? = some ((w.cell? ⟨g, o1 + p, none⟩).getD undef) := fun p hp => by simp [news, List.getElem?_range hp]
    refine ⟨news, hnl, fun w' hw' => ?_, fun i y hy j c hj => ?_, fun u hu => ?_⟩
    · have : (loadCells ⟨g, o1, none⟩ news.length).run P w' = .ok news.toArray w' := run_loadCells_list (P := P) w' ⟨g, o1, none⟩ news fun p u hu => by
        have hp : p < len * sz := by rw [← hnl]; exact (List.getElem?_eq_some_iff.1 hu).1
        obtain ⟨c, u', _, h2, _⟩ := cellAt p hp
        rw [hnp p hp, h2] at hu
        simp at hu
        rw [addr_add]
        have : w'.cell? ⟨g, o1 + p, none⟩ = w.cell? ⟨g, o1 + p, none⟩ := by simp [World.cell?, hw']
        rw [this, h2, hu]
      rw [hnl] at this
      exact this
    · have hi : i < len := by rw [← hlen.1]; exact (List.getElem?_eq_some_iff.1 hy).1
      have hj' : j < sz := by rw [← hlen.2 y (List.mem_of_getElem? hy)]; exact (List.getElem?_eq_some_iff.1 hj).1
      obtain ⟨u, h1, h2⟩ := elm_cells hs hc hi he hy _ _ hj
      have hp : i * sz + j < len * sz := by
        have h6 : i * sz + j < (i + 1) * sz := by rw [Nat.add_mul]; omega
        exact Nat.lt_of_lt_of_le h6 (Nat.mul_le_mul_right _ (by omega))
      have : news.toArray.getD (i * sz + j) undef = u := by
        simp only [Array.getD_eq_getD_getElem?, List.getElem?_toArray, hnp _ hp]
        rw [← Nat.add_assoc, h1]; rfl
      rw [this]; exact h2
    · obtain ⟨p, hp, rfl⟩ := List.getElem_of_mem hu
      obtain ⟨c, u', _, h2, h3⟩ := cellAt p (by rw [← hnl]; exact hp)
      have := hnp p (by rw [← hnl]; exact hp)
      rw [List.getElem?_eq_getElem hp, h2] at this
      simp at this
      rw [this]; exact h3.oneCell

theorem append_room {t t' ty e e' : TypeId} {i : TypeInfo} (ht : P.underlying t = some (.slice e)) (ht' : P.underlying t' = some (.slice e')) (hi : P.info? e = some i) {base xa : Option Addr} {sLen sCap m xc : Nat} {news : List Value} {w' : World}
    (hfc : (Builtin.firstCells i.size m (.slice xa m xc)).run P w = .ok news.toArray w) (hroom : sLen + m ≤ sCap)
    (hst : ∀ ad, base = some ad → (storeCells (ad.add (sLen * i.size)) news).run P w = .ok () w') (hn : base = none → w' = w) :
    (Builtin.append_ #[t, t'] ty #[.slice base sLen sCap, .slice xa m xc]).run P w = .ok (.slice base (sLen + m) sCap) w' := by
  cases base with
  | none =>
    rw [hn rfl]
    simp [Builtin.append_, run_underlying ht, run_underlying ht', sizeOf, typeInfo, hi, Builtin.lenOf, hroom, hfc]
  | some ad =>
    have h := hst ad rfl
    simp [Builtin.append_, run_underlying ht, run_underlying ht', sizeOf, typeInfo, hi, Builtin.lenOf, hroom, hfc, h]

theorem append_grow {t t' ty e e' : TypeId} {i : TypeInfo} {z : Value} (ht : P.underlying t = some (.slice e)) (ht' : P.underlying t' = some (.slice e')) (hi : P.info? e = some i) (hz : i.zero = some z) {base xa : Option Addr} {sLen sCap m xc : Nat} {olds news : List Value}
    (hfc : (Builtin.firstCells i.size m (.slice xa m xc)).run P w.drew = .ok news.toArray w.drew) (hfo : (Builtin.firstCells i.size sLen (.slice base sLen sCap)).run P w.drew = .ok olds.toArray w.drew)
    (hroom : sCap < sLen + m) (h63 : sLen + m ≤ 9223372036854775807) (hfit : Builtin.nextslicecap (sLen + m) sCap * i.bytes ≤ 281474976710656) :
    (Builtin.append_ #[t, t'] ty #[.slice base sLen sCap, .slice xa m xc]).run P w =
      .ok (.slice (some ⟨w.heap.size, 0, none⟩) (sLen + m) (grownCap w (sLen + m) sCap e)) (w.drew.alloc (.cells (olds.toArray ++ news.toArray ++ Builtin.zeroCells z.cells (grownCap w (sLen + m) sCap e - (sLen + m))) e)) := by
  have hn : ¬ (sLen + m ≤ sCap) := by omega
  have h63' : ¬ (9223372036854775807 < ((sLen : Int) + (m : Int))) := by omega
  have h48' : ¬ (281474976710656 < Builtin.nextslicecap (sLen + m) sCap * i.bytes) := by omega
  simp [Builtin.append_, run_underlying ht, run_underlying ht', sizeOf, typeInfo, zeroValue, hi, hz, Builtin.lenOf, hn, h63', h48', Question.forced, hfc, hfo, newRow, grownCap]
  congr 2
  apply Array.ext'
  simp [List.append_assoc]

theorem RowR.append {sz : Nat} {xs ys : List AV} {us vs : List Value} {rest : Array Value} (hx : RowR M θ sz xs us.toArray) (hy : RowR M θ sz ys vs.toArray) (hu : us.length = xs.length * sz) (hv : vs.length = ys.length * sz)
    (h1 : ∀ x ∈ xs, x.cells.length = sz) (h2 : ∀ x ∈ ys, x.cells.length = sz) : RowR M θ sz (xs ++ ys) (us.toArray ++ vs.toArray ++ rest) := by
  intro i x hi j c hj
  by_cases h : i < xs.length
  · rw [List.getElem?_append_left h] at hi
    have hj' : j < sz := by rw [← h1 x (List.mem_of_getElem? hi)]; exact (List.getElem?_eq_some_iff.1 hj).1
    have hb : i * sz + j < us.length := by
      rw [hu]
      have h6 : i * sz + j < (i + 1) * sz := by rw [Nat.add_mul]; omega
      exact Nat.lt_of_lt_of_le h6 (Nat.mul_le_mul_right _ (by omega))
    have e : (us.toArray ++ vs.toArray ++ rest).getD (i * sz + j) undef = us.toArray.getD (i * sz + j) undef := by
      simp only [Array.getD_eq_getD_getElem?]
      rw [Array.getElem?_append_left (by simp; omega), Array.getElem?_append_left (by simp; omega)]
    rw [e]; exact hx i x hi j c hj
  · rw [List.getElem?_append_right (by omega)] at hi
    have hj' : j < sz := by rw [← h2 x (List.mem_of_getElem? hi)]; exact (List.getElem?_eq_some_iff.1 hj).1
    have hil : i - xs.length < ys.length := (List.getElem?_eq_some_iff.1 hi).1
    have hd : i * sz = xs.length * sz + (i - xs.length) * sz := by rw [← Nat.add_mul]; congr 1; omega
    have hb : (i - xs.length) * sz + j < vs.length := by
      rw [hv]
      have h6 : (i - xs.length) * sz + j < (i - xs.length + 1) * sz := by rw [Nat.add_mul]; omega
      exact Nat.lt_of_lt_of_le h6 (Nat.mul_le_mul_right _ (by omega))
    have e : (us.toArray ++ vs.toArray ++ rest).getD (i * sz + j) undef = vs.toArray.getD ((i - xs.length) * sz + j) undef := by
      simp only [Array.getD_eq_getD_getElem?]
      rw [Array.getElem?_append_left (by simp; omega), Array.getElem?_append_right (by simp; omega)]
      congr 2; simp; omega
    rw [e]; exact hy _ x hi j c hj

theorem RowR.mono {M' : Mem} {θ' : Th} {sz : Nat} {xs : List AV} {cur : Array Value} (h : RowR M θ sz xs cur) (hM : M.le M') (ht : θ.le θ') : RowR M' θ' sz xs cur := fun i x hi j c hj => (h i x hi j c hj).mono hM ht

theorem Ext.own_congr {w' : World} {M' : Mem} {θ' : Th} {σ1 σ' : St} (h : Ext0 w M θ σ1 w' M' θ' σ') (hg : ∀ g, Own θ σ1 g ↔ Own θ σ g) : Ext0 w M θ σ w' M' θ' σ' :=
  ⟨h.os, h.tape, h.output, h.size, h.m, h.t, fun g h1 h2 h3 => h.block g h1 (fun e => h2 ((hg g).1 e)) h3, fun g h1 => (h.own g h1).imp_left (hg g).1, h.var, fun g o v h1 => (h.dom g o v h1).imp_right (fun h2 => h2.imp_right (hg g).1)⟩

theorem set_last {σ : St} {x : Ob} : (σ ++ List.replicate 1 Ob.none).set σ.length x = σ ++ [x] := by simp

/-- A new object that is a row: in a new block, or without one. -/
theorem row_new {w' : World} {sz cap : Nat} {b : Option Nat} {xs : List AV} (hs : StR w M θ σ) (h0 : 0 < sz) (hx : ∀ x ∈ xs, x.cells.length = sz) (hl : xs.length ≤ cap) (hm : cap ≤ maxLen)
    (hb : match b with | none => xs = [] ∧ cap = 0 ∧ w'.heap = w.heap | some g => g = w.heap.size ∧ ∃ cur e, w'.heap = w.heap.push (.cells cur e (0, 0)) ∧ cur.size = cap * sz ∧ RowR M θ sz xs cur)
    (h1 : w'.os = w.os) (h2 : w'.tape = w.tape) (h3 : w'.output = w.output) :
    Ext0 w M θ σ w' M (θ.setR σ.length xs.length (b, cap, sz)) (σ ++ [.row sz xs]) ∧ StR w' M (θ.setR σ.length xs.length (b, cap, sz)) (σ ++ [.row sz xs]) := by
  obtain ⟨n1, n2⟩ := hs.none 1
  have hlast : (σ ++ List.replicate 1 Ob.none)[σ.length]? = some .none := by simp
  have hob := n1.ob _ _ hlast
  have hle := Th.le_setR (x := (b, cap, sz)) (hob.1 xs.length)
  have hk : ∀ k, k < w.heap.size → w'.heap[k]? = w.heap[k]? := by
    intro k hk
    cases b with
    | none => rw [hb.2.2]
    | some g =>
      obtain ⟨_, cur, e, h4, _⟩ := hb
      rw [h4, Array.getElem?_push, if_neg (by omega)]
  have hsz : w.heap.size ≤ w'.heap.size := by
    cases b with
    | none => rw [hb.2.2]; exact Nat.le_refl _
    | some g => obtain ⟨_, cur, e, h4, _⟩ := hb; rw [h4]; simp
  have key := set_ext (w' := w') (θ' := θ.setR σ.length xs.length (b, cap, sz)) (x' := .row sz xs) n1 hlast hle (fun j hj => Th.setR_ne hj) (fun k hk' _ => hk k hk') (fun g hg => by
      rw [ownAt_set (by simp)] at hg
      obtain ⟨cap', s, hg⟩ := hg
      rw [Th.setR_self] at hg
      simp only [Option.some.injEq, Prod.mk.injEq] at hg
      obtain ⟨rfl, _, _⟩ := hg
      exact .inr (Nat.le_of_eq hb.1.symm)) ⟨hob.2, fun gen y hy => (by
        rcases Th.setR_of hy with h | h
        · omega
        · rw [hob.1] at h; cases h), h0, hx, b, cap, Th.setR_self _ _ _, hl, hm, by
        cases b with
        | none => exact ⟨hb.1, hb.2.1⟩
        | some g =>
          obtain ⟨rfl, cur, e, h4, h5, h6⟩ := hb
          exact ⟨cur, e, by rw [h4]; simp, h5, h6.mono M.le_refl hle⟩⟩ h1 h2 h3 hsz
  rw [set_last] at key
  exact ⟨key.1.own_congr n2, key.2⟩

/-- A row that has got longer, or whose elements have been written over: in its block, or in a new one. -/
theorem row_grow {w' : World} {sz cap id g : Nat} {s2 : Nat} {xs ys : List AV} (hs : StR w M θ σ) (hx : σ[id]? = some (.row s2 xs)) (hl : xs.length < ys.length ∨ (xs.length = ys.length ∧ θ.tr id ys.length = some (some g, cap, sz)))
    (h0 : 0 < sz) (hy : ∀ x ∈ ys, x.cells.length = sz) (hc : ys.length ≤ cap) (hm : cap ≤ maxLen) (hg : OwnAt θ σ id g ∨ w.heap.size ≤ g) (hw : ∀ k, k < w.heap.size → ¬ OwnAt θ σ id k → w'.heap[k]? = w.heap[k]?)
    (hb : ∃ cur e, w'.heap[g]? = some (.cells cur e (0, 0)) ∧ cur.size = cap * sz ∧ RowR M θ sz ys cur) (hsz : w.heap.size ≤ w'.heap.size) (h1 : w'.os = w.os) (h2 : w'.tape = w.tape) (h3 : w'.output = w.output) :
    ∃ θ', θ.le θ' ∧ θ'.tr id ys.length = some (some g, cap, sz) ∧ Ext0 w M θ σ w' M θ' (σ.set id (.row sz ys)) ∧ StR w' M θ' (σ.set id (.row sz ys)) := by
  have hlt : id < σ.length := (List.getElem?_eq_some_iff.1 hx).1
  obtain ⟨k1, k2, k3, k4, b, cap0, k5, k6, k7, k8⟩ := hs.ob _ _ hx
  have main : ∀ θ', θ.le θ' → θ'.tr id ys.length = some (some g, cap, sz) → (∀ j, j ≠ id → (∀ gen, θ'.tr j gen = θ.tr j gen) ∧ θ'.tc j = θ.tc j) → θ'.tc id = none → (∀ gen x, θ'.tr id gen = some x → gen ≤ ys.length) →
      Ext0 w M θ σ w' M θ' (σ.set id (.row sz ys)) ∧ StR w' M θ' (σ.set id (.row sz ys)) := by
    intro θ' hle ht hne htc hgen
    obtain ⟨cur, e, b1, b2, b3⟩ := hb
    refine set_ext hs hx hle hne hw (fun k hk => ?_) ⟨htc, hgen, h0, hy, some g, cap, ht, hc, hm, cur, e, b1, b2, b3.mono M.le_refl hle⟩ h1 h2 h3 hsz
    rw [ownAt_set hlt] at hk
    obtain ⟨cap', s, hk⟩ := hk
    rw [ht] at hk
    simp only [Option.some.injEq, Prod.mk.injEq] at hk
    rw [← hk.1]; exact hg
  rcases hl with hl | ⟨hl, ht⟩
  · have hn : θ.tr id ys.length = none := by
      cases e : θ.tr id ys.length with
      | none => rfl
      | some x => have := k2 _ _ e; omega
    have hle := Th.le_setR (x := (some g, cap, sz)) hn
    refine ⟨_, hle, Th.setR_self _ _ _, main _ hle (Th.setR_self _ _ _) (fun j hj => Th.setR_ne hj) k1 (fun gen x h => ?_)⟩
    rcases Th.setR_of h with h | h
    · omega
    · have := k2 _ _ h; omega
  · exact ⟨θ, θ.le_refl, ht, main θ θ.le_refl ht (fun j _ => ⟨fun _ => rfl, rfl⟩) k1 (fun gen x h => by have := k2 _ _ h; omega)⟩

end
end Go.Can

namespace Go.Can
open Go Go.RowKit
section
variable {P : Program} {w : World} {M : Mem} {θ : Th} {σ : St} {π : Nat → Option Nat} {env : Env} {o : Oper} {a : Act}

theorem row_splice {sz p : Nat} {xs ys : List AV} {cur : Array Value} {news : List Value} (hr : RowR M θ sz xs cur) (hn : RowR M θ sz ys news.toArray) (hx : ∀ x ∈ xs, x.cells.length = sz) (hy : ∀ x ∈ ys, x.cells.length = sz)
    (hp : p ≤ xs.length) (hl : news.length = ys.length * sz) (hb : p * sz + news.length ≤ cur.size) :
    RowR M θ sz (xs.take p ++ ys ++ xs.drop (p + ys.length)) (cur.toList.take (p * sz) ++ news ++ cur.toList.drop (p * sz + news.length)).toArray ∧ ∀ x ∈ xs.take p ++ ys ++ xs.drop (p + ys.length), x.cells.length = sz := by
  have htl : (xs.take p).length = p := by simp; omega
  refine ⟨fun i x hi j c hj => ?_, fun x hx' => ?_⟩
  · have e : ((cur.toList.take (p * sz) ++ news ++ cur.toList.drop (p * sz + news.length)).toArray).getD (i * sz + j) undef =
        if i * sz + j < p * sz then cur.getD (i * sz + j) undef else if i * sz + j < p * sz + news.length then news.toArray.getD (i * sz + j - p * sz) undef else cur.getD (i * sz + j) undef := by
      simp only [Array.getD_eq_getD_getElem?, List.getElem?_toArray]
      rw [getElem?_splice (by rw [Array.length_toList]; exact hb)]
      split
      · simp
      · split <;> simp
    rw [e]
    by_cases c1 : i < p
    · rw [List.append_assoc, List.getElem?_append_left (by omega), List.getElem?_take_of_lt c1] at hi
      have hj' : j < sz := by rw [← hx x (List.mem_of_getElem? hi)]; exact (List.getElem?_eq_some_iff.1 hj).1
      have : i * sz + j < p * sz := by
        have h6 : i * sz + j < (i + 1) * sz := by rw [Nat.add_mul]; omega
        exact Nat.lt_of_lt_of_le h6 (Nat.mul_le_mul_right _ (by omega))
      rw [if_pos this]; exact hr i x hi j c hj
    · have hpi : p * sz ≤ i * sz := Nat.mul_le_mul_right _ (by omega)
      by_cases c2 : i < p + ys.length
      · rw [List.append_assoc, List.getElem?_append_right (by omega), htl, List.getElem?_append_left (by omega)] at hi
        have hj' : j < sz := by rw [← hy x (List.mem_of_getElem? hi)]; exact (List.getElem?_eq_some_iff.1 hj).1
        have hd : i * sz = p * sz + (i - p) * sz := by rw [← Nat.add_mul]; congr 1; omega
        have hb2 : (i - p) * sz + j < news.length := by
          rw [hl]
          have h6 : (i - p) * sz + j < (i - p + 1) * sz := by rw [Nat.add_mul]; omega
          exact Nat.lt_of_lt_of_le h6 (Nat.mul_le_mul_right _ (by omega))
        rw [if_neg (by omega), if_pos (by omega)]
        have : i * sz + j - p * sz = (i - p) * sz + j := by omega
        rw [this]; exact hn _ x hi j c hj
      · rw [List.getElem?_append_right (by simp; omega), List.getElem?_drop] at hi
        have e2 : p + ys.length + (i - (xs.take p ++ ys).length) = i := by simp; omega
        rw [e2] at hi
        have hge : (p + ys.length) * sz ≤ i * sz := Nat.mul_le_mul_right _ (by omega)
        rw [Nat.add_mul] at hge
        rw [if_neg (by omega), if_neg (by omega)]; exact hr i x hi j c hj
  · simp only [List.mem_append] at hx'
    rcases hx' with (h | h) | h
    · exact hx x (List.mem_of_mem_take h)
    · exact hy x h
    · exact hx x (List.mem_of_mem_drop h)

theorem firstCells_zero {sz : Nat} {ad : Option Addr} {cap : Nat} (w' : World) : (Builtin.firstCells sz 0 (.slice ad 0 cap)).run P w' = .ok ([] : List Value).toArray w' := by
  cases ad <;> simp [Builtin.firstCells, loadCells, loadCellsFrom]

theorem set_same {id : Nat} {x : Ob} (h : σ[id]? = some x) : σ.set id x = σ := by
  apply List.ext_getElem?
  intro j
  by_cases e : j = id
  · subst e; rw [List.getElem?_set_self (List.getElem?_eq_some_iff.1 h).1, h]
  · rw [List.getElem?_set_ne (Ne.symm e)]

theorem slice_of_elems {sz : Nat} {x : AV} {ys : List AV} {u : Value} (h : elems σ sz x = some ys) (hr : Rep M θ x u) : ∃ ad len cap, u = .slice ad len cap ∧ Cell M θ x (.slice ad len cap) := by
  unfold elems at h
  split at h
  · obtain ⟨ad, cap, e⟩ := hr.list; exact ⟨ad, _, cap, e, by rw [← e]; exact hr⟩
  · obtain ⟨ad, cap, e⟩ := hr.row; exact ⟨ad, _, cap, e, by rw [← e]; exact hr⟩
  · cases h

theorem append_sound {t t' ty e e' : TypeId} {i : TypeInfo} {zv : Value} {base sz bytes : Nat} {s x r : AV} {us ux : Value} {ys : List AV} {σ' : St} (hs : StR w M θ σ) (ht : P.underlying t = some (.slice e)) (ht' : P.underlying t' = some (.slice e')) (hi : P.info? e = some i)
    (hz : i.zero = some zv) (hi1 : i.size = sz) (hi2 : i.bytes = bytes) (hzs : zv.cells.size = sz) (hsz : 0 < sz) (hby : 0 < bytes) (hus : Rep M θ s us) (hux : Rep M θ x ux) (he : elems σ sz x = some ys) (hr : appendTo base σ sz bytes s ys = some (r, σ')) :
    ∃ v w' θ', (Builtin.append_ #[t, t'] ty #[us, ux]).run P w = .ok v w' ∧ Ext0 w M θ σ w' M θ' σ' ∧ StR w' M θ' σ' ∧ Rep M θ' r v := by
  obtain ⟨xa, m, xc, rfl, hcx⟩ := slice_of_elems he hux
  obtain ⟨hm, hys, news, hnl, hfc, hnr, hn1⟩ := elems_read (P := P) hs hcx he hsz
  subst hi1
  have small : ∀ {n : Nat}, n * bytes ≤ 140737488355328 → n ≤ 140737488355328 := fun {n} h => by
    have : n * 1 ≤ n * bytes := Nat.mul_le_mul_left _ hby
    omega
  have same : ∀ {ad : Option Addr} {len cap : Nat}, len ≤ cap → m = 0 → (Builtin.append_ #[t, t'] ty #[.slice ad len cap, .slice xa m xc]).run P w = .ok (.slice ad len cap) w := by
    intro ad len cap hle hm0
    have hn0 : news = [] := List.eq_nil_of_length_eq_zero (by rw [hnl, hm0]; simp)
    have := append_room (P := P) (w := w) (w' := w) (ty := ty) (base := ad) (sLen := len) (sCap := cap) (xc := xc) ht ht' hi (hfc w rfl) (by omega) (fun ad' _ => by rw [hn0]; simp [storeCells]) (fun _ => rfl)
    rw [this, hm0]; rfl
  have grow : ∀ {ad : Option Addr} {len cap : Nat} {olds : List Value}, cap < len + m → (len + m) * bytes ≤ 140737488355328 → (∀ w', w'.heap = w.heap → (Builtin.firstCells i.size len (.slice ad len cap)).run P w' = .ok olds.toArray w') →
      ∃ ncap, len + m ≤ ncap ∧ ncap ≤ maxLen ∧ (Builtin.append_ #[t, t'] ty #[.slice ad len cap, .slice xa m xc]).run P w =
        .ok (.slice (some ⟨w.heap.size, 0, none⟩) (len + m) ncap) (w.drew.alloc (.cells (olds.toArray ++ news.toArray ++ Builtin.zeroCells zv.cells (ncap - (len + m))) e)) := by
    intro ad len cap olds h1 h2 h4
    have h3 := small h2
    rw [← hi2] at h2
    exact ⟨grownCap w (len + m) cap e, grownCap_ge _ _ _ _, grownCap_le_maxLen _ _ _ _ (by simp only [maxLen]; omega), append_grow (P := P) ht ht' hi hz (hfc w.drew rfl) (h4 w.drew rfl) h1 (by omega) (growslice_fits h1 h2)⟩
  have gsize : ∀ {os : List AV} {olds : List Value} {ncap : Nat}, olds.length = os.length * i.size → (os.length + m) ≤ ncap → (olds.toArray ++ news.toArray ++ Builtin.zeroCells zv.cells (ncap - (os.length + m))).size = ncap * i.size := by
    intro os olds ncap h1 h2
    simp only [Array.size_append, List.size_toArray, size_zeroCells, hzs, h1, hnl, ← Nat.add_mul]
    congr 1; omega
  have heap_drew : ∀ X : Obj, (w.drew.alloc X).heap = w.heap.push X := fun _ => rfl
  unfold appendTo at hr
  split at hr
  · -- a list without elements
    rename_i full s'
    obtain ⟨ad, len, cap, rfl, hcs⟩ := slice_of_elems (σ := σ) (sz := i.size) (ys := []) (by simp [elems]) hus
    generalize hv : Value.slice ad len cap = u at hcs
    cases hcs with
    | list _ _ _ a0 cap0 u0 hcl hml hfl hsl hal hel =>
      cases hv
      split at hr
      · rename_i hcond
        simp only [Bool.and_eq_true, decide_eq_true_eq] at hcond
        split at hr
        · rename_i hfull
          cases hr
          have hc0 : cap = 0 := by simpa using hfl hfull
          subst hc0
          rcases Nat.eq_zero_or_pos m with h0 | h0
          · have hy0 : ys = [] := List.eq_nil_of_length_eq_zero (by omega)
            subst hy0
            obtain ⟨q1, q2⟩ := row_new (w' := w) (cap := 0) (b := none) (xs := []) hs hsz (by simp) (by simp) (by simp [maxLen]) ⟨rfl, rfl, rfl⟩ rfl rfl rfl
            exact ⟨_, w, _, same (Nat.le_refl _) h0, q1, q2, (Cell.row i.size σ.length 0 0 0 false ad 0 0 none (Th.setR_self _ _ _) (by omega) (by omega) (by simp [maxLen]) (fun _ => rfl) rfl (.inl rfl)).rep⟩
          · obtain ⟨ncap, g1, g2, g3⟩ := grow (ad := ad) (len := 0) (cap := 0) (olds := []) (by omega) (by rw [Nat.zero_add, ← hm]; exact hcond.1) (fun w' _ => firstCells_zero w')
            have hcur := RowR.append (M := M) (θ := θ) (xs := []) (ys := ys) (us := []) (vs := news) (rest := Builtin.zeroCells zv.cells (ncap - (0 + m))) (fun i x hx => by simp at hx) hnr (by simp) (by rw [hnl, hm]) (by simp) hys
            obtain ⟨q1, q2⟩ := row_new (w' := w.drew.alloc (.cells (([] : List Value).toArray ++ news.toArray ++ Builtin.zeroCells zv.cells (ncap - (0 + m))) e)) (cap := ncap) (b := some w.heap.size) (xs := ys) hs hsz hys (by omega) g2
              ⟨rfl, _, e, heap_drew _, by have := gsize (os := []) (olds := []) (ncap := ncap) (by simp) (by simpa using g1); simpa using this, by simpa using hcur⟩ rfl rfl rfl
            refine ⟨_, _, _, g3, q1, q2, Cell.rep ?_⟩
            have := Cell.row (M := M) (θ := θ.setR σ.length ys.length (some w.heap.size, ncap, i.size)) i.size σ.length ys.length 0 ys.length false (some ⟨w.heap.size, 0, none⟩) ncap ncap (some w.heap.size) (Th.setR_self _ _ _) (by omega) (by omega) g2 (by simp) (by simp) (.inr ⟨_, rfl, by simp⟩)
            rw [hm] at this ⊢
            simpa using this
        · split at hr
          · rename_i hemp
            cases hr
            have h0 : m = 0 := by rw [← hm]; simpa using hemp
            exact ⟨_, w, θ, same (Nat.zero_le _) h0, Ext.refl _ _ _ _ _, hs, hus⟩
          · cases hr
      · cases hr
  · -- a list with elements
    rename_i full s' x1 xs
    obtain ⟨ad, len, cap, rfl, hcs⟩ := slice_of_elems (σ := σ) (sz := s') (ys := x1 :: xs) (by simp [elems]) hus
    have hcs' := hcs
    generalize hv : Value.slice ad len cap = u at hcs
    cases hcs with
    | list _ _ _ a0 cap0 u0 hcl hml hfl hsl hal hel =>
      cases hv
      split at hr
      · rename_i hemp
        cases hr
        have h0 : m = 0 := by rw [← hm]; simpa using hemp
        exact ⟨_, w, θ, same hcl h0, Ext.refl _ _ _ _ _, hs, hus⟩
      · rename_i hemp
        split at hr
        · rename_i hcond
          cases hr
          simp only [Bool.and_eq_true, beq_iff_eq, decide_eq_true_eq] at hcond
          obtain ⟨⟨⟨hfull, hs'⟩, hbound⟩, _⟩ := hcond
          subst hs'
          have hcl' : cap = (x1 :: xs).length := hfl hfull
          have hmp : 0 < m := by
            rcases Nat.eq_zero_or_pos m with h0 | h0
            · exact absurd (by simpa using List.eq_nil_of_length_eq_zero (hm.trans h0) : ys.isEmpty = true) hemp
            · exact h0
          obtain ⟨k1, k2, olds, k3, k4, k5, k6⟩ := elems_read (P := P) (ys := x1 :: xs) hs hcs' (by simp [elems]) hsz
          obtain ⟨ncap, g1, g2, g3⟩ := grow (ad := ad) (len := (x1 :: xs).length) (cap := cap) (olds := olds) (by omega) (by rw [← hm]; exact hbound) k4
          have hcur := RowR.append (M := M) (θ := θ) (rest := Builtin.zeroCells zv.cells (ncap - ((x1 :: xs).length + m))) k5 hnr k3 (by rw [hnl, hm]) k2 hys
          have hl2 : ((x1 :: xs) ++ ys).length = (x1 :: xs).length + m := by rw [List.length_append, hm]
          obtain ⟨q1, q2⟩ := row_new (w' := w.drew.alloc (.cells (olds.toArray ++ news.toArray ++ Builtin.zeroCells zv.cells (ncap - ((x1 :: xs).length + m))) e)) (cap := ncap) (b := some w.heap.size) (xs := (x1 :: xs) ++ ys) hs hsz (fun x hx => (List.mem_append.1 hx).elim (k2 x) (hys x)) (by omega) g2
            ⟨rfl, _, e, heap_drew _, gsize k3 g1, hcur⟩ rfl rfl rfl
          refine ⟨_, _, _, g3, q1, q2, Cell.rep ?_⟩
          have := Cell.row (M := M) (θ := θ.setR σ.length ((x1 :: xs) ++ ys).length (some w.heap.size, ncap, i.size)) i.size σ.length ((x1 :: xs) ++ ys).length 0 ((x1 :: xs) ++ ys).length false (some ⟨w.heap.size, 0, none⟩) ncap ncap (some w.heap.size) (Th.setR_self _ _ _) (by omega) (by omega) g2 (by simp) (by simp) (.inr ⟨_, rfl, by simp⟩)
          rw [hl2] at this ⊢
          rw [hm]
          exact this
        · cases hr
  · -- a row
    rename_i s' id gen off len lim
    obtain ⟨ad, cap, rfl⟩ := hus.row
    have hcs : Cell M θ (.row s' id gen off len lim) (.slice ad len cap) := hus
    have hcs' := hcs
    generalize hv : Value.slice ad len cap = u at hcs
    cases hcs with
    | row _ _ _ _ _ _ a0 cap0 cap1 b0 htr h1 hg hmx hb hcap ha =>
      cases hv
      split at hr
      · rename_i s2 xs hob
        obtain ⟨o1, o2, o3, o4, b, cap2, o5, o6, o7, o8⟩ := hs.ob _ _ hob
        split at hr
        · rename_i hcond
          simp only [Bool.and_eq_true, beq_iff_eq, decide_eq_true_eq] at hcond
          obtain ⟨⟨⟨hs', hgen⟩, hbound⟩, _⟩ := hcond
          subst hgen; subst hs'
          rw [o5] at htr
          simp only [Option.some.injEq, Prod.mk.injEq] at htr
          obtain ⟨rfl, rfl, hs2⟩ := htr
          subst hs2
          rw [hm] at hbound
          have hel : elems σ i.size (.row i.size id xs.length off len lim) = some ((xs.drop off).take len) := by simp [elems, hob]
          split at hr
          · -- no room behind it
            rename_i hlim
            subst hlim
            simp only [if_true] at hcap
            split at hr
            · rename_i hemp
              cases hr
              have h0 : m = 0 := by rw [← hm]; simpa using hemp
              exact ⟨_, w, θ, same (by omega) h0, Ext.refl _ _ _ _ _, hs, hus⟩
            · rename_i hemp
              cases hr
              have hmp : 0 < m := by
                rcases Nat.eq_zero_or_pos m with h0 | h0
                · exact absurd (by simpa using List.eq_nil_of_length_eq_zero (hm.trans h0) : ys.isEmpty = true) hemp
                · exact h0
              obtain ⟨k1, k2, olds, k3, k4, k5, k6⟩ := elems_read (P := P) hs hcs' hel hsz
              obtain ⟨ncap, g1, g2, g3⟩ := grow (ad := ad) (len := len) (cap := cap) (olds := olds) (by omega) hbound k4
              have hcur := RowR.append (M := M) (θ := θ) (rest := Builtin.zeroCells zv.cells (ncap - (len + m))) k5 hnr (by rw [k3, k1]) (by rw [hnl, hm]) k2 hys
              have hl2 : ((xs.drop off).take len ++ ys).length = len + m := by rw [List.length_append, hm, k1]
              obtain ⟨q1, q2⟩ := row_new (w' := w.drew.alloc (.cells (olds.toArray ++ news.toArray ++ Builtin.zeroCells zv.cells (ncap - (len + m))) e)) (cap := ncap) (b := some w.heap.size) (xs := (xs.drop off).take len ++ ys) hs hsz (fun x hx => (List.mem_append.1 hx).elim (k2 x) (hys x)) (by omega) g2
                ⟨rfl, _, e, heap_drew _, by have := gsize (os := (xs.drop off).take len) (olds := olds) (ncap := ncap) (by rw [k3, k1]) (by rw [k1]; exact g1); rw [k1] at this; exact this, hcur⟩ rfl rfl rfl
              refine ⟨_, _, _, g3, q1, q2, Cell.rep ?_⟩
              have := Cell.row (M := M) (θ := θ.setR σ.length ((xs.drop off).take len ++ ys).length (some w.heap.size, ncap, i.size)) i.size σ.length ((xs.drop off).take len ++ ys).length 0 ((xs.drop off).take len ++ ys).length false (some ⟨w.heap.size, 0, none⟩) ncap ncap (some w.heap.size) (Th.setR_self _ _ _) (by omega) (by omega) g2 (by simp) (by simp) (.inr ⟨_, rfl, by simp⟩)
              rw [hl2] at this ⊢
              rw [hm]
              exact this
          · rename_i hlim
            have hlim' : lim = false := by simpa using hlim
            subst hlim'
            simp only [Bool.false_eq_true, if_false] at hcap
            split at hr
            · -- the row may be written
              have inplace : ∀ (n' : Nat) (L : List AV), 0 < m → len + m ≤ cap → L = xs.take (off + len) ++ ys ++ xs.drop (off + len + m) → (xs.length < L.length ∨ xs.length = L.length) → n' = L.length → off + (len + m) ≤ n' →
                  ∃ v w' θ', (Builtin.append_ #[t, t'] ty #[.slice ad len cap, .slice xa m xc]).run P w = .ok v w' ∧ Ext0 w M θ σ w' M θ' (σ.set id (.row i.size L)) ∧ StR w' M θ' (σ.set id (.row i.size L)) ∧ Rep M θ' (.row i.size id n' off (len + m) false) v := by
                intro n' L hmp hroom hL hlen hn' hle
                rcases ha with ha | ⟨g, hb0, ha⟩
                · omega
                subst hb0
                subst ha
                obtain ⟨cur, e1, p1, p2, p3⟩ := o8
                have hLl : L.length ≤ cap2 := by rw [hL]; simp; omega
                have hb1 : (off + len) * i.size + news.length ≤ cur.size := by
                  rw [p2, hnl, ← Nat.add_mul]; exact Nat.mul_le_mul_right _ (by omega)
                have hst := run_storeCells_at P g (off * i.size + len * i.size) e1 news 0 cur w p1 (by rw [← Nat.add_mul]; simpa using hb1) hn1
                obtain ⟨r1, r2⟩ := row_splice (p := off + len) p3 hnr o4 hys (by omega) (by rw [hnl, hm]) hb1
                have hrun := append_room (P := P) (w := w) (w' := w.setRow g (cur.toList.take (off * i.size + len * i.size) ++ news ++ cur.toList.drop (off * i.size + len * i.size + news.length)).toArray) (ty := ty) (base := some ⟨g, off * i.size, none⟩) (sLen := len) (sCap := cap) (xc := xc) ht ht' hi (hfc w rfl) hroom
                  (fun ad' h => by cases h; rw [addr_add]; simpa using hst) (fun h => by cases h)
                have hown : OwnAt θ σ id g := by unfold OwnAt; rw [hob]; exact ⟨cap2, i.size, o5⟩
                obtain ⟨θ', t1, t2, t3, t4⟩ := row_grow (w' := w.setRow g (cur.toList.take (off * i.size + len * i.size) ++ news ++ cur.toList.drop (off * i.size + len * i.size + news.length)).toArray) (cap := cap2) (g := g) (sz := i.size) (ys := L) hs hob
                  (hlen.imp_right fun h => ⟨h, by rw [← h]; exact o5⟩) hsz (by rw [hL, ← hm]; exact r2) hLl o7 (.inl hown) (fun k _ hk => setRow_other w g k _ (fun e => hk (e ▸ hown)))
                  ⟨_, e1, setRow_heap w g cur _ e1 _ p1, by
                    simp only [List.size_toArray, List.length_append, List.length_take, List.length_drop, Array.length_toList]
                    rw [← Nat.add_mul] at *
                    omega, by rw [hL, ← hm, ← Nat.add_mul]; exact r1⟩ (by simp) rfl rfl rfl
                refine ⟨_, _, θ', hrun, t3, t4, Cell.rep ?_⟩
                subst hn'
                exact Cell.row i.size id L.length off (len + m) false _ cap cap2 (some g) t2 hle hLl o7 (by simp) (by simpa using hcap) (.inr ⟨g, rfl, rfl⟩)
              have regrow : ∀ (L : List AV), off = 0 → ¬ (len + m ≤ cap) → L = (xs.drop off).take len ++ ys → xs.length < L.length →
                  ∃ v w' θ', (Builtin.append_ #[t, t'] ty #[.slice ad len cap, .slice xa m xc]).run P w = .ok v w' ∧ Ext0 w M θ σ w' M θ' (σ.set id (.row i.size L)) ∧ StR w' M θ' (σ.set id (.row i.size L)) ∧ Rep M θ' (.row i.size id (len + m) 0 (len + m) false) v := by
                intro L hoff hroom hL hlen
                obtain ⟨k1, k2, olds, k3, k4, k5, k6⟩ := elems_read (P := P) hs hcs' hel hsz
                obtain ⟨ncap, g1, g2, g3⟩ := grow (ad := ad) (len := len) (cap := cap) (olds := olds) (by omega) hbound k4
                have hcur := RowR.append (M := M) (θ := θ) (rest := Builtin.zeroCells zv.cells (ncap - (len + m))) k5 hnr (by rw [k3, k1]) (by rw [hnl, hm]) k2 hys
                have hl2 : L.length = len + m := by rw [hL, List.length_append, hm, k1]
                obtain ⟨θ', t1, t2, t3, t4⟩ := row_grow (w' := w.drew.alloc (.cells (olds.toArray ++ news.toArray ++ Builtin.zeroCells zv.cells (ncap - (len + m))) e)) (cap := ncap) (g := w.heap.size) (sz := i.size) (ys := L) hs hob
                  (.inl hlen) hsz (by rw [hL]; exact fun x hx => (List.mem_append.1 hx).elim (k2 x) (hys x)) (by omega) g2 (.inr (Nat.le_refl _)) (fun k hk _ => by rw [heap_drew, Array.getElem?_push, if_neg (by omega)])
                  ⟨_, e, heap_new w.drew _, by have := gsize (os := (xs.drop off).take len) (olds := olds) (ncap := ncap) (by rw [k3, k1]) (by rw [k1]; exact g1); rw [k1] at this; exact this, by rw [hL]; exact hcur⟩ (by rw [heap_drew]; simp) rfl rfl rfl
                refine ⟨_, _, θ', g3, t3, t4, Cell.rep ?_⟩
                rw [hl2] at t2
                exact Cell.row i.size id (len + m) 0 (len + m) false _ ncap ncap (some w.heap.size) t2 (by omega) g1 g2 (by simp) (by simp) (.inr ⟨_, rfl, by simp⟩)
              split at hr
              · rename_i hfull
                simp only [Bool.and_eq_true, beq_iff_eq] at hfull
                obtain ⟨hoff, hlen⟩ := hfull
                subst hoff
                cases hr
                rw [hm]
                rcases Nat.eq_zero_or_pos m with h0 | h0
                · have hy0 : ys = [] := List.eq_nil_of_length_eq_zero (by omega)
                  subst hy0
                  rw [List.append_nil, set_same hob]
                  refine ⟨_, w, θ, same (by omega) h0, Ext.refl _ _ _ _ _, hs, ?_⟩
                  rw [h0, Nat.add_zero]
                  rw [hlen] at hus ⊢; exact hus
                · by_cases hroom : len + m ≤ cap
                  · have := inplace (len + m) (xs ++ ys) h0 hroom (by rw [hlen]; simp) (.inl (by simp; omega)) (by simp; omega) (by omega)
                    rw [hlen] at this ⊢; exact this
                  · have := regrow (xs ++ ys) rfl hroom (by rw [hlen]; simp) (by simp; omega)
                    rw [hlen] at this ⊢; exact this
              · split at hr
                · rename_i hin
                  rw [hm] at hin
                  cases hr
                  rw [hm]
                  rcases Nat.eq_zero_or_pos m with h0 | h0
                  · have hy0 : ys = [] := List.eq_nil_of_length_eq_zero (by omega)
                    subst hy0
                    have hL : xs.take (off + len) ++ [] ++ xs.drop (off + len + m) = xs := by rw [h0, Nat.add_zero, List.append_nil, List.take_append_drop]
                    rw [hL, set_same hob]
                    refine ⟨_, w, θ, same (by omega) h0, Ext.refl _ _ _ _ _, hs, ?_⟩
                    rw [h0, Nat.add_zero]; exact hus
                  · exact inplace xs.length _ h0 (by omega) rfl (.inr (by simp; omega)) (by simp; omega) (by omega)
                · rename_i hin
                  rw [hm] at hin
                  split at hr
                  · rename_i hoff
                    simp only [beq_iff_eq] at hoff
                    subst hoff
                    cases hr
                    rw [hm]
                    by_cases hroom : len + m ≤ cap
                    · exact inplace (len + m) _ (by omega) hroom (by rw [Nat.zero_add, List.drop_eq_nil_of_le (by omega)]; simp) (.inl (by simp; omega)) (by simp; omega) (by omega)
                    · exact regrow _ rfl hroom (by simp) (by simp; omega)
                  · cases hr
            · cases hr
        · cases hr
      · cases hr
  · cases hr

theorem op_append {base : Nat} {c : Call} {t t' : TypeId} {s x r : AV} {σ' : St} (hs : StR w M θ σ) (hf : FrR w M θ σ π env a.tmps) (hd : okDst env o.dst = true) (ho : o.op = .call c) (hc : c.callee = .builtin .append)
    (ht : c.argTypes.toList = [t, t']) (hx : lookVs env c.args.toList = some [s, x]) (hr : evalBuiltin P base .append [t, t'] σ [s, x] = some (r, σ')) : OpS P w M θ σ π o a env σ' (.val r) := by
  obtain ⟨y1, y2, h1, h2, h3⟩ := lookVs_two hx
  have hs1 := (lookV_sound hf h2).rep
  have hx1 := (lookV_sound hf h3).rep
  obtain ⟨ics, e0⟩ := builtin_run (P := P) (w := w) (a := a) ho hc
  have e1 := array_two ht
  have e2 := array_two h1
  rw [e1, e2] at e0
  simp only [evalBuiltin] at hr
  split at hr
  · rename_i e sz bytes x' g1 g2
    obtain ⟨hu, i, i1, i2, i3⟩ := elemT_spec g1
    obtain ⟨hu', _⟩ := elemT_spec (e := x'.1) (s := x'.2.1) (b := x'.2.2) g2
    split at hr
    · rename_i hz
      simp only [Bool.and_eq_true, decide_eq_true_eq] at hz
      obtain ⟨hz, hby⟩ := hz
      unfold zeroOk at hz
      split at hz
      · rename_i z hz0
        simp only [Bool.and_eq_true, beq_iff_eq, decide_eq_true_eq] at hz
        obtain ⟨i', zv, z1, z2, z3⟩ := zeroOf_spec hz0
        rw [i1] at z1; cases z1
        have hzs : zv.cells.size = sz := by rw [(ofV_sound z3 M θ).cells.1, hz.1]
        split at hr
        · rename_i ys hys
          obtain ⟨v, w', θ', q1, q2, q3, q4⟩ := append_sound (P := P) (ty := o.type) hs hu hu' i1 z2 i2 i3 hzs hz.2 hby hs1 hx1 hys hr
          exact .goV hf hd (by rw [e0]; simp [builtin, q1]) q2 q3 q4
        · cases hr
      · cases hz
    · cases hr
  · cases hr

end
end Go.Can
