/- The operations, seventh part: elements' addresses, slices, literals, append. -/
import Derived.Test.YtgcfhcgnkohfkaaCanI
set_option linter.unusedSimpArgs false
set_option linter.unusedVariables false
namespace Go.Can
open Go Go.RowKit
section
variable {P : Program} {w : World} {M : Mem} {θ : Th} {σ : St} {π : Nat → Option Nat} {env : Env} {o : Oper} {a : Act}

theorem op_slice {t e : TypeId} {sz bytes : Nat} {x : Operand} {lo hi mx : Option Operand} {l h m : Option Int} {s r : AV} (hs : StR w M θ σ) (hf : FrR w M θ σ π env a.tmps) (hd : okDst env o.dst = true) (ho : o.op = .slice t x lo hi mx)
    (ht : elemT P t = some (e, sz, bytes)) (hx : lookV env x = some s) (hl : optN env lo = some l) (hh : optN env hi = some h) (hm : optN env mx = some m) (hr : sliceOf sz s l h m = some r) : OpS P w M θ σ π o a env σ (.val r) := by
  have hv := lookV_sound hf hx
  have hc : ∃ ad len cap, a.eval x = .slice ad len cap ∧ Cell M θ s (.slice ad len cap) := by
    unfold sliceOf at hr
    simp only at hr
    split at hr
    · obtain ⟨ad, cap, e1⟩ := hv.rep.list
      exact ⟨ad, _, cap, e1, by rw [← e1]; exact hv⟩
    · obtain ⟨ad, cap, e1⟩ := hv.rep.row
      exact ⟨ad, _, cap, e1, by rw [← e1]; exact hv⟩
    · cases hr
  obtain ⟨ad, len, cap, e1, hc⟩ := hc
  obtain ⟨h', l', m', g1, g2, g3, g4, g5, g6, g7, g8⟩ := sliceOf_sound hr hc
  have hrun := slice_run (P := P) (w := w) (ad := ad) ht g1 g2 g3 g4 g5 g6 g7
  refine .sameV (u := .slice (if m' = l' then ad else ad.map (·.add (l' * sz))) (h' - l') (m' - l')) hs hf hd ?_ g8.rep
  simp only [execOp, ho, optN_spec hf hl, optN_spec hf hh, optN_spec hf hm, e1, Sem.run_bind, hrun]
  rfl

theorem op_indexAddr {t e : TypeId} {sz bytes : Nat} {x y : Operand} {s : AV} {k : IntKind} {n : Int} {len : Nat} (hs : StR w M θ σ) (hf : FrR w M θ σ π env a.tmps) (hd : okDst env o.dst = true) (ho : o.op = .indexAddr t x y)
    (ht : elemT P t = some (e, sz, bytes)) (hx : lookV env x = some s) (hy : lookV env y = some (.int k n)) (hsl : (∃ f s' xs, s = .list f s' xs ∧ xs.length = len) ∨ ∃ s' id gen off lim, s = .row s' id gen off len lim) (h0 : 0 ≤ n) (h1 : n < len) :
    OpS P w M θ σ π o a env σ (.val (.elm s sz n.toNat 0)) := by
  have hv := lookV_sound hf hx
  have hn := (lookV_sound hf hy).rep.int
  obtain ⟨hu, i, hi1, hi2, _⟩ := elemT_spec ht
  have hc : ∃ g o1 cap, a.eval x = .slice (some ⟨g, o1, none⟩) len cap ∧ Cell M θ s (.slice (some ⟨g, o1, none⟩) len cap) := by
    rcases hsl with ⟨f, s', xs, rfl, rfl⟩ | ⟨s', id, gen, off, lim, rfl⟩
    · have hv' : Cell M θ (.list f s' xs) (a.eval x) := hv
      generalize he : a.eval x = u at hv'
      cases hv' with
      | list _ _ _ a0 cap0 u0 hcl hml hfl hsl hal hel =>
        have hne : xs ≠ [] := by intro e; subst e; simp at h1; omega
        obtain ⟨g, o1, rfl, _⟩ := hal hne
        exact ⟨g, o1, cap0, rfl, by rw [← he]; exact hv⟩
    · have hv' : Cell M θ (.row s' id gen off len lim) (a.eval x) := hv
      generalize he : a.eval x = u at hv'
      cases hv' with
      | row _ _ _ _ _ _ a0 cap0 cap1 b0 ht h1' hg hm hb hcap ha =>
        rcases ha with ha | ⟨g, hb0, ha⟩
        · exfalso; subst hcap; split at ha <;> omega
        · exact ⟨g, _, cap0, by rw [ha], by rw [← ha, ← he]; exact hv⟩
  obtain ⟨g, o1, cap, e1, hc⟩ := hc
  refine .sameV (u := .pointer (some ⟨g, o1 + (n.toNat * sz + 0), none⟩)) hs hf hd ?_ (Cell.elm s sz n.toNat 0 g o1 len cap hc (by omega)).rep
  simp [execOp, ho, Instr.indexAt, hn, asIntOf, run_underlying hu, e1, sizeOf, typeInfo, hi1, hi2, addr_add]
  omega

theorem op_makeFunc {f : FuncId} {fi ca : Array Operand} {vs us : List AV} (hs : StR w M θ σ) (hf : FrR w M θ σ π env a.tmps) (hd : okDst env o.dst = true) (ho : o.op = .makeFunc (.func f) fi ca)
    (h1 : lookVs env fi.toList = some vs) (h2 : lookVs env ca.toList = some us) (n1 : vs.all fun v => match v with | .agg _ => false | _ => true) (n2 : us.all fun v => match v with | .agg _ => false | _ => true) : OpS P w M θ σ π o a env σ (.val (.fn f vs us)) := by
  have key : ∀ {xs : Array Operand} {vs : List AV}, lookVs env xs.toList = some vs → (vs.all fun v => match v with | .agg _ => false | _ => true) = true → (xs.map a.eval).size = vs.length ∧ ∀ i c, vs[i]? = some c → Cell M θ c ((xs.map a.eval).getD i undef) := by
    intro xs vs h n
    obtain ⟨e1, e2⟩ := lookVs_sound hf h
    refine ⟨by simp [e1], fun i c hc => ?_⟩
    have hi : i < xs.size := by have := (List.getElem?_eq_some_iff.1 hc).1; rw [e1] at this; simpa using this
    have hx : xs.toList[i]? = some xs[i] := by simp [hi]
    have hr := e2 i c _ hc hx
    have hn := List.all_eq_true.1 n c (List.mem_of_getElem? hc)
    have : (xs.map a.eval).getD i undef = a.eval xs[i] := by simp [Array.getD_eq_getD_getElem?, hi]
    rw [this]
    exact hr.cell (fun cs e => by subst e; simp at hn)
  exact .sameV (u := .func (.func f) (fi.map a.eval) (ca.map a.eval)) hs hf hd (by simp [execOp, ho, Instr.makeFunc]) (Cell.fn f vs us _ _ (key h1 n1).1 (key h2 n2).1 (key h1 n1).2 (key h2 n2).2).rep

/-! Literals. -/

theorem foldl_set (vs : List Value) : ∀ (k off : Nat) (cs : Array Value), ((vs.zipIdx k).foldl (fun cs (p : Value × Nat) => cs.setIfInBounds (off + p.2) p.1) cs).size = cs.size ∧
    ∀ i, ((vs.zipIdx k).foldl (fun cs (p : Value × Nat) => cs.setIfInBounds (off + p.2) p.1) cs)[i]? = if off + k ≤ i ∧ i < off + k + vs.length ∧ i < cs.size then vs[i - (off + k)]? else cs[i]? := by
  induction vs with
  | nil => intro k off cs; refine ⟨rfl, fun i => ?_⟩; rw [if_neg (by simp; omega)]; rfl
  | cons v vs ih =>
    intro k off cs
    simp only [List.zipIdx_cons, List.foldl_cons]
    obtain ⟨h1, h2⟩ := ih (k + 1) off (cs.setIfInBounds (off + k) v)
    refine ⟨by rw [h1]; simp, fun i => ?_⟩
    rw [h2]
    simp only [Array.size_setIfInBounds, List.length_cons]
    by_cases c1 : off + (k + 1) ≤ i ∧ i < off + (k + 1) + vs.length ∧ i < cs.size
    · rw [if_pos c1, if_pos (by omega)]
      have : i - (off + k) = (i - (off + (k + 1))) + 1 := by omega
      rw [this]; simp
    · rw [if_neg c1]
      by_cases c2 : i = off + k ∧ i < cs.size
      · rw [if_pos (by omega)]
        have : i - (off + k) = 0 := by omega
        rw [this, ← c2.1]
        simp [c2.2]
      · by_cases c3 : off + k ≤ i ∧ i < off + k + (vs.length + 1) ∧ i < cs.size
        · omega
        · rw [if_neg c3]
          by_cases c4 : off + k = i
          · subst c4
            have : ¬ off + k < cs.size := by omega
            simp [this]
          · simp [Array.getElem?_setIfInBounds, c4]

theorem fill_step {cs cs' : List AV} {v : AV} {cur : Array Value} {u : Value} {off : Nat} (h : splice cs off v.cells = some cs') (hc : CellsR M θ cs cur) (hu : RepA M θ v u) :
    u.cells.size = v.cells.length ∧ off + u.cells.size ≤ cur.size ∧ CellsR M θ cs' (u.cells.zipIdx.foldl (fun cs (p : Value × Nat) => cs.setIfInBounds (off + p.2) p.1) cur) := by
  have h1 := hu.cells
  obtain ⟨h2, h3, h4⟩ := splice_spec h
  have h5 := splice_cells h hc h1
  have e : u.cells.zipIdx.foldl (fun cs (p : Value × Nat) => cs.setIfInBounds (off + p.2) p.1) cur = (cur.toList.take off ++ u.cells.toList ++ cur.toList.drop (off + u.cells.toList.length)).toArray := by
    rw [← Array.foldl_toList, Array.toList_zipIdx]
    obtain ⟨k1, k2⟩ := foldl_set u.cells.toList 0 off cur
    apply Array.ext_getElem?
    intro i
    rw [k2]
    conv => rhs; rw [List.getElem?_toArray, getElem?_splice (by simp only [Array.length_toList, h1.1, hc.1]; exact h2)]
    simp only [Nat.add_zero, Array.length_toList, h1.1, hc.1, Array.getElem?_toList]
    by_cases c1 : i < off
    · rw [if_neg (by omega), if_pos c1]
    · rw [if_neg c1]
      by_cases c2 : i < off + v.cells.length
      · rw [if_pos (by omega), if_pos c2]
      · rw [if_neg (by omega), if_neg c2]
  exact ⟨h1.1, by rw [h1.1, hc.1]; exact h2, by rw [e]; exact h5⟩

theorem fill_sound {place place' : Nat → Option (Nat × Nat)} (hp : ∀ i x, place i = some x → place' i = some x) : ∀ {ps : List (Nat × AV)} {us : List (Nat × Value)} {cs cs' : List AV} {cur : Array Value}, fillA place cs ps = some cs' → CellsR M θ cs cur →
    us.length = ps.length → (∀ (i : Nat) (k : Nat) (v : AV), ps[i]? = some (k, v) → ∃ u, us[i]? = some (k, u) ∧ RepA M θ v u) → ∃ cur', Instr.fill place' cur us = some cur' ∧ CellsR M θ cs' cur'
  | [], us, cs, cs', cur, h, hc, hl, _ => by
    have : us = [] := List.eq_nil_of_length_eq_zero (by simpa using hl)
    subst this
    simp only [fillA] at h; cases h
    exact ⟨cur, rfl, hc⟩
  | (k, v) :: ps, us, cs, cs', cur, h, hc, hl, hu => by
    cases us with
    | nil => simp at hl
    | cons p us =>
      obtain ⟨u, h1, h2⟩ := hu 0 k v rfl
      simp at h1; subst h1
      simp only [fillA] at h
      split at h
      · cases h
      · rename_i off size hpl
        split at h
        · rename_i hsz
          split at h
          · rename_i cs1 hsp
            obtain ⟨g1, g2, g3⟩ := fill_step hsp hc h2
            obtain ⟨cur', g4, g5⟩ := fill_sound hp h g3 (by simpa using hl) (fun i k' v' hi => by simpa using hu (i + 1) k' v' (by simpa using hi))
            refine ⟨cur', ?_, g5⟩
            simp only [Instr.fill, hp _ _ hpl]
            have hsz' : v.cells.length = size := by simpa using hsz
            rw [if_neg (by simp only [Bool.or_eq_true, decide_eq_true_eq, not_or]; first | omega | (refine ⟨?_, ?_⟩ <;> (try simp) <;> omega))]
            exact g4
          · cases h
        · cases h

theorem lookParts_sound (hf : FrR w M θ σ π env a.tmps) : ∀ {xs : List (Nat × Operand)} {vs : List (Nat × AV)}, lookParts env xs = some vs →
    vs.length = xs.length ∧ ∀ (i : Nat) (k : Nat) (v : AV), vs[i]? = some (k, v) → ∃ x : Operand, xs[i]? = some (k, x) ∧ RepA M θ v (a.eval x)
  | [], vs, e => by cases e; simp
  | (k, x) :: xs, vs, e => by
    unfold lookParts at e
    split at e
    · rename_i v vs' h1 h2
      cases e
      have ih := lookParts_sound hf h2
      refine ⟨by simp [ih.1], fun i k' v' hv => ?_⟩
      cases i with
      | zero => simp at hv; obtain ⟨rfl, rfl⟩ := hv; exact ⟨x, rfl, lookV_sound hf h1⟩
      | succ i => simp at hv; simpa using ih.2 i k' v' hv
    · cases e

theorem zeroOf_spec {t : TypeId} {z : AV} (h : zeroOf P t = some z) : ∃ i zv, P.info? t = some i ∧ i.zero = some zv ∧ ofV zv = some z := by
  unfold zeroOf at h
  cases hi : P.info? t with
  | none => rw [hi] at h; cases h
  | some i =>
    rw [hi] at h
    cases hi2 : i.zero with
    | none => simp [hi2] at h
    | some zv => exact ⟨i, zv, rfl, hi2, by simpa [hi2] using h⟩

theorem mapM_sizes : ∀ {fs : List Field} , (∀ f ∈ fs, ∃ s, szOf P f.type = some s) → (fs.mapM (fun f => (do pure (f.offset, ← sizeOf f.type) : Sem (Nat × Nat)))).run P w = .ok (fs.map fun f => (f.offset, (szOf P f.type).getD 0)) w
  | [], _ => by simp
  | f :: fs, h => by
    obtain ⟨s, hs⟩ := h f (by simp)
    have ih := mapM_sizes (fs := fs) (fun g hg => h g (by simp [hg]))
    simp only [List.mapM_cons, Sem.run_bind, szOf_run hs, Result.andThen_ok, Sem.run_pure, ih]
    simp [hs]

end
end Go.Can
