/- The operations, second part: arithmetic and comparisons, addresses, loads. -/
import Derived.Test.YtgcfhcgnkohfkaaCanD
set_option linter.unusedSimpArgs false
set_option linter.unusedVariables false
namespace Go.Can
open Go
section
variable {P : Program} {w : World} {M : Mem} {θ : Th} {σ : St} {π : Nat → Option Nat} {env : Env} {o : Oper} {a : Act}

theorem eqGuard_plain (op : BinOp) (t : TypeId) (x y : Operand) {u v : Value} (h1 : ∀ us, u ≠ .agg us) (h2 : u ≠ .nilIface) : (eqGuard op t x y u v).run P w = .ok () w := by
  cases u <;> first
    | exact absurd rfl (h1 _)
    | exact absurd rfl h2
    | (cases op <;> simp [eqGuard])

theorem run_eql_ptr {t : TypeId} {p q : Option Addr} {b : Bool} (h : (Op.equalIn 10000 t (.pointer p) (.pointer q)).run P w = .ok b w) : (binOp .eql t (.pointer p) (.pointer q)).run P w = .ok (.bool b) w := by
  have e : binOp .eql t (.pointer p) (.pointer q) = (do pure (.bool (← Op.equalIn 10000 t (.pointer p) (.pointer q)))) := rfl
  rw [e, Sem.run_bind, h]; rfl
theorem run_neq_ptr {t : TypeId} {p q : Option Addr} {b : Bool} (h : (Op.equalIn 10000 t (.pointer p) (.pointer q)).run P w = .ok b w) : (binOp .neq t (.pointer p) (.pointer q)).run P w = .ok (.bool !b) w := by
  have e : binOp .neq t (.pointer p) (.pointer q) = (do pure (.bool (!(← Op.equalIn 10000 t (.pointer p) (.pointer q))))) := rfl
  rw [e, Sem.run_bind, h]; rfl
theorem run_eql_map {t : TypeId} {p q : Option Nat} {b : Bool} (h : (Op.equalIn 10000 t (.map p) (.map q)).run P w = .ok b w) : (binOp .eql t (.map p) (.map q)).run P w = .ok (.bool b) w := by
  have e : binOp .eql t (.map p) (.map q) = (do pure (.bool (← Op.equalIn 10000 t (.map p) (.map q)))) := rfl
  rw [e, Sem.run_bind, h]; rfl
theorem run_neq_map {t : TypeId} {p q : Option Nat} {b : Bool} (h : (Op.equalIn 10000 t (.map p) (.map q)).run P w = .ok b w) : (binOp .neq t (.map p) (.map q)).run P w = .ok (.bool !b) w := by
  have e : binOp .neq t (.map p) (.map q) = (do pure (.bool (!(← Op.equalIn 10000 t (.map p) (.map q))))) := rfl
  rw [e, Sem.run_bind, h]; rfl
theorem run_eql_boolb {t : TypeId} {p q : Bool} {b : Bool} (h : (Op.equalIn 10000 t (.bool p) (.bool q)).run P w = .ok b w) : (binOp .eql t (.bool p) (.bool q)).run P w = .ok (.bool b) w := by
  have e : binOp .eql t (.bool p) (.bool q) = (do pure (.bool (← Op.equalIn 10000 t (.bool p) (.bool q)))) := rfl
  rw [e, Sem.run_bind, h]; rfl
theorem run_neq_boolb {t : TypeId} {p q : Bool} {b : Bool} (h : (Op.equalIn 10000 t (.bool p) (.bool q)).run P w = .ok b w) : (binOp .neq t (.bool p) (.bool q)).run P w = .ok (.bool !b) w := by
  have e : binOp .neq t (.bool p) (.bool q) = (do pure (.bool (!(← Op.equalIn 10000 t (.bool p) (.bool q))))) := rfl
  rw [e, Sem.run_bind, h]; rfl
theorem eqIn_nil_ptr (d : Nat) {t e : TypeId} (q : Option Addr) (h : P.underlying t = some (.pointer e)) : (Op.equalIn (d + 1) t (.pointer none) (.pointer q)).run P w = .ok q.isNone w := by simp [Op.equalIn, run_underlying h]
theorem eqIn_ptr_nil (d : Nat) {t e : TypeId} (q : Addr) (h : P.underlying t = some (.pointer e)) : (Op.equalIn (d + 1) t (.pointer (some q)) (.pointer none)).run P w = .ok false w := by simp [Op.equalIn, run_underlying h]
theorem eqIn_nil_map (d : Nat) {t k e : TypeId} (q : Option Nat) (h : P.underlying t = some (.map k e)) : (Op.equalIn (d + 1) t (.map none) (.map q)).run P w = .ok q.isNone w := by simp [Op.equalIn, run_underlying h]
theorem eqIn_map_nil (d : Nat) {t k e : TypeId} (q : Option Nat) (h : P.underlying t = some (.map k e)) : (Op.equalIn (d + 1) t (.map q) (.map none)).run P w = .ok q.isNone w := by cases q <;> simp [Op.equalIn, run_underlying h]
theorem eqIn_slice_nil (d : Nat) {t e : TypeId} (g : Addr) (n c : Nat) (h : P.underlying t = some (.slice e)) : (Op.equalIn (d + 1) t (.slice (some g) n c) (.slice none 0 0)).run P w = .ok false w := by simp [Op.equalIn, run_underlying h]

theorem binA_run {op : BinOp} {t : TypeId} {x y r : AV} {u v : Value} (h : binA P op t x y = some r) (hx : Rep M θ x u) (hy : Rep M θ y v) (p q : Operand) :
    ∃ z, (do eqGuard op t p q u v; binOp op t u v : Sem Value).run P w = .ok z w ∧ Rep M θ r z := by
  unfold binA at h
  split at h
  · rename_i k n k' n'
    obtain rfl := hx.int; obtain rfl := hy.int
    rw [Sem.run_bind, eqGuard_plain op t p q (by simp) (by simp), Result.andThen_ok]
    split at h
    · split at h
      · cases h
      · rename_i hb; cases h
        exact ⟨_, by simp [binOp, Op.shift, hb], (Cell.int _ _).rep⟩
    · split at h
      · cases h
      · rename_i hb; cases h
        exact ⟨_, by simp [binOp, Op.shift, hb], (Cell.int _ _).rep⟩
    · split at h
      · rename_i hk; subst hk
        split at h
        · cases h; exact ⟨_, by simp [binOp, Op.intArith], (Cell.int _ _).rep⟩
        · cases h; exact ⟨_, by simp [binOp, Op.intArith], (Cell.int _ _).rep⟩
        · cases h; exact ⟨_, by simp [binOp, Op.intArith], (Cell.int _ _).rep⟩
        · split at h
          · cases h
          · rename_i hb; cases h; exact ⟨_, by simp [binOp, Op.intDiv, hb], (Cell.int _ _).rep⟩
        · split at h
          · cases h
          · rename_i hb; cases h; exact ⟨_, by simp [binOp, Op.intDiv, hb], (Cell.int _ _).rep⟩
        · cases h; exact ⟨_, by simp [binOp, Op.intCmp], (Cell.bool _).rep⟩
        · cases h; exact ⟨_, by simp [binOp, Op.intCmp], (Cell.bool _).rep⟩
        · cases h; exact ⟨_, by simp [binOp, Op.intCmp], (Cell.bool _).rep⟩
        · cases h; exact ⟨_, by simp [binOp, Op.intCmp], (Cell.bool _).rep⟩
        · cases h; exact ⟨_, by simp [binOp, Op.intCmp], (Cell.bool _).rep⟩
        · cases h; exact ⟨_, by simp [binOp, Op.intCmp], (Cell.bool _).rep⟩
        · cases h
      · cases h
  · rename_i s s'
    obtain rfl := hx.str; obtain rfl := hy.str
    rw [Sem.run_bind, eqGuard_plain op t p q (by simp) (by simp), Result.andThen_ok]
    split at h
    · cases h; exact ⟨.bool (s.toList == s'.toList), by simp [binOp, Op.stringOp], (Cell.bool _).rep⟩
    · cases h; exact ⟨.bool !(s.toList == s'.toList), by simp [binOp, Op.stringOp], (Cell.bool _).rep⟩
    · cases h
  · rename_i b b'
    obtain rfl := hx.bool; obtain rfl := hy.bool
    rw [Sem.run_bind, eqGuard_plain op t p q (by simp) (by simp), Result.andThen_ok]
    split at h
    · rename_i hb; cases h
      exact ⟨.bool (b == b'), run_eql_boolb (run_equalIn_bool w 9999 t b b' hb), (Cell.bool _).rep⟩
    · rename_i hb; cases h
      exact ⟨.bool !(b == b'), run_neq_boolb (run_equalIn_bool w 9999 t b b' hb), (Cell.bool _).rep⟩
    · cases h
  · rename_i cx cy
    split at h
    · rename_i hk
      have hg : P.eqGuardType P.depth t = false := by
        simp only [keyOk] at hk
        split at hk
        · simp only [Bool.and_eq_true] at hk
          obtain ⟨_, _, _, _, _, h5⟩ := flatT_spec hk.1
          exact h5
        · cases hk
      have key : ∀ b, cellsEq cx cy = some b → (Op.equalIn 10000 t u v).run P w = .ok b w := fun b hb =>
        keyEq_run (d := 9998) (x := .agg cx) (y := .agg cy) (by simpa [keyEq] using hb) hx hy hk
      obtain ⟨us, rfl, _⟩ := hx
      obtain ⟨vs, rfl, _⟩ := hy
      rw [Sem.run_bind, run_eqGuard_agg w op t p q us vs hg, Result.andThen_ok]
      split at h
      · cases e : cellsEq cx cy with
        | none => rw [e] at h; cases h
        | some b =>
          rw [e] at h; cases h
          exact ⟨.bool b, by rw [run_eql_struct, key b e]; rfl, (Cell.bool _).rep⟩
      · cases e : cellsEq cx cy with
        | none => rw [e] at h; cases h
        | some b =>
          rw [e] at h; cases h
          exact ⟨.bool !b, by rw [run_neq_struct, key b e]; rfl, (Cell.bool _).rep⟩
      · cases h
    · cases h
  · obtain rfl := hx.nilp; obtain rfl := hy.nilp
    rw [Sem.run_bind, eqGuard_plain op t p q (by simp) (by simp), Result.andThen_ok]
    split at h
    · rename_i e hb; cases h; exact ⟨_, run_eql_ptr (eqIn_nil_ptr 9999 none hb), (Cell.bool _).rep⟩
    · rename_i e hb; cases h; exact ⟨_, run_neq_ptr (eqIn_nil_ptr 9999 none hb), (Cell.bool _).rep⟩
    · cases h
  · obtain ⟨g, _, rfl⟩ := hx.ptr; obtain rfl := hy.nilp
    rw [Sem.run_bind, eqGuard_plain op t p q (by simp) (by simp), Result.andThen_ok]
    split at h
    · rename_i e hb; cases h; exact ⟨_, run_eql_ptr (eqIn_ptr_nil 9999 _ hb), (Cell.bool _).rep⟩
    · rename_i e hb; cases h; exact ⟨_, run_neq_ptr (eqIn_ptr_nil 9999 _ hb), (Cell.bool _).rep⟩
    · cases h
  · obtain rfl := hx.nilp; obtain ⟨g, _, rfl⟩ := hy.ptr
    rw [Sem.run_bind, eqGuard_plain op t p q (by simp) (by simp), Result.andThen_ok]
    split at h
    · rename_i e hb; cases h; exact ⟨_, run_eql_ptr (eqIn_nil_ptr 9999 (some _) hb), (Cell.bool _).rep⟩
    · rename_i e hb; cases h; exact ⟨_, run_neq_ptr (eqIn_nil_ptr 9999 (some _) hb), (Cell.bool _).rep⟩
    · cases h
  · rename_i r'
    obtain rfl := hy.mapN
    cases r' with
    | none =>
      obtain rfl := hx.mapN
      rw [Sem.run_bind, eqGuard_plain op t p q (by simp) (by simp), Result.andThen_ok]
      split at h
      · rename_i e e' hb; cases h; exact ⟨_, run_eql_map (eqIn_map_nil 9999 none hb), (Cell.bool _).rep⟩
      · rename_i e e' hb; cases h; exact ⟨_, run_neq_map (eqIn_map_nil 9999 none hb), (Cell.bool _).rep⟩
      · cases h
    | some id =>
      obtain ⟨g, _, rfl⟩ := hx.mapS
      rw [Sem.run_bind, eqGuard_plain op t p q (by simp) (by simp), Result.andThen_ok]
      split at h
      · rename_i e e' hb; cases h; exact ⟨_, run_eql_map (eqIn_map_nil 9999 (some _) hb), (Cell.bool _).rep⟩
      · rename_i e e' hb; cases h; exact ⟨_, run_neq_map (eqIn_map_nil 9999 (some _) hb), (Cell.bool _).rep⟩
      · cases h
  · cases h

theorem op_binOp {op : BinOp} {t t' : TypeId} {x y : Operand} {v v' r : AV} (hs : StR w M θ σ) (hf : FrR w M θ σ π env a.tmps) (hd : okDst env o.dst = true) (ho : o.op = .binOp op t x y t')
    (hx : lookV env x = some v) (hy : lookV env y = some v') (hr : binA P op t v v' = some r) : OpS P w M θ σ π o a env σ (.val r) := by
  obtain ⟨z, h1, h2⟩ := binA_run (P := P) (w := w) hr (lookV_sound hf hx).rep (lookV_sound hf hy).rep x y
  refine .sameV (u := z) hs hf hd ?_ h2
  simp only [execOp, ho]
  rw [Sem.run_bind, h1]
  simp

theorem op_nilEq {op : BinOp} {t t' : TypeId} {x y : Operand} {v : AV} (hs : StR w M θ σ) (hf : FrR w M θ σ π env a.tmps) (hd : okDst env o.dst = true) (ho : o.op = .binOp op t x y t')
    (hx : lookV env x = some v) (hr : nilEq P op t y v = true) : OpS P w M θ σ π o a env σ (.val (.bool false)) := by
  unfold nilEq at hr
  split at hr
  · rename_i f sz z zs e he
    have h1 := (lookV_sound hf hx).rep
    obtain ⟨g, cap, hg⟩ : ∃ g cap, a.eval x = .slice (some g) (zs.length + 1) cap := by
      have h2 : Cell M θ (.list f sz (z :: zs)) (a.eval x) := h1
      generalize a.eval x = u at h2
      cases h2 with
      | list _ _ _ a cap uu hc hm hf hs ha he =>
        obtain ⟨g, o, rfl, _⟩ := ha (by simp)
        exact ⟨_, _, rfl⟩
    refine .sameV (u := .bool false) hs hf hd ?_ (Cell.bool _).rep
    have hz : (do eqGuard .eql t x (.const (.slice none 0 0)) (a.eval x) (a.eval (.const (.slice none 0 0))); binOp .eql t (a.eval x) (a.eval (.const (.slice none 0 0))) : Sem Value).run P w = .ok (.bool false) w := by
      have e0 : a.eval (.const (.slice none 0 0)) = .slice none 0 0 := rfl
      rw [hg, e0, Sem.run_bind, eqGuard_plain .eql t _ _ (by simp) (by simp), Result.andThen_ok]
      have e1 : binOp .eql t (.slice (some g) (zs.length + 1) cap) (.slice none 0 0) = (do pure (.bool (← Op.equalIn 10000 t (.slice (some g) (zs.length + 1) cap) (.slice none 0 0)))) := rfl
      have e2 : (Op.equalIn 10000 t (.slice (some g) (zs.length + 1) cap) (.slice none 0 0)).run P w = .ok false w := eqIn_slice_nil 9999 g (zs.length + 1) cap he
      rw [e1, Sem.run_bind, e2]; rfl
    simp only [execOp, ho]
    rw [Sem.run_bind, hz]
    simp
  · cases hr

/-! Addresses. -/

theorem fieldT_spec {t : TypeId} {f off s : Nat} {ft : TypeId} (h : fieldT P t f = some (off, s, ft)) :
    ∃ fs fd, P.underlying t = some (.struct fs) ∧ fs[f]? = some fd ∧ fd.offset = off ∧ fd.type = ft ∧ szOf P ft = some s ∧ s ≠ 0 := by
  unfold fieldT at h
  split at h
  · rename_i fs hfs
    split at h
    · rename_i fd hfd
      split at h
      · rename_i s' hs'
        split at h
        · cases h
        · rename_i h0; cases h
          exact ⟨fs, fd, hfs, hfd, rfl, rfl, hs', h0⟩
      · cases h
    · cases h
  · cases h

theorem fieldAt_run {t : TypeId} {f off s : Nat} {ft : TypeId} (h : fieldT P t f = some (off, s, ft)) (g o : Nat) :
    (Instr.fieldAt t (.pointer (some ⟨g, o, none⟩)) f).run P w = .ok (.pointer (some ⟨g, o + off, none⟩)) w := by
  obtain ⟨fs, fd, h1, h2, h3, h4, h5, h6⟩ := fieldT_spec h
  simp [Instr.fieldAt, run_underlying h1, h2, Instr.sureAddr, fieldPlace, h4, szOf_run h5, h6, h3, addr_add]

theorem op_fieldAddr_plc {t : TypeId} {x : Operand} {f off s t0 o0 : Nat} {ft : TypeId} (hs : StR w M θ σ) (hf : FrR w M θ σ π env a.tmps) (hd : okDst env o.dst = true) (ho : o.op = .fieldAddr t x f)
    (ht : fieldT P t f = some (off, s, ft)) (hx : look env x = .plc t0 o0) : OpS P w M θ σ π o a env σ (.plc t0 (o0 + off)) := by
  have h1 := (look_sound hf x).1
  rw [hx] at h1
  obtain ⟨g, h2, h3⟩ := h1
  exact .same (u := .pointer (some ⟨g, o0 + off, none⟩)) hs hf hd (by simp only [execOp, ho, h3]; rw [Sem.run_bind, fieldAt_run ht]; rfl) (by simp) (fun _ => ⟨g, h2, rfl⟩)

theorem op_fieldAddr_ptr {t : TypeId} {x : Operand} {f off s id o0 : Nat} {ft : TypeId} (hs : StR w M θ σ) (hf : FrR w M θ σ π env a.tmps) (hd : okDst env o.dst = true) (ho : o.op = .fieldAddr t x f)
    (ht : fieldT P t f = some (off, s, ft)) (hx : look env x = .val (.ptr id o0)) : OpS P w M θ σ π o a env σ (.val (.ptr id (o0 + off))) := by
  have h1 := (look_sound hf x).1
  rw [hx] at h1
  obtain ⟨g, h2, h3⟩ := Rep.ptr h1
  exact .sameV (u := .pointer (some ⟨g, o0 + off, none⟩)) hs hf hd (by simp only [execOp, ho, h3]; rw [Sem.run_bind, fieldAt_run ht]; rfl) (Cell.ptr _ _ g h2).rep

theorem op_fieldAddr_elm {t : TypeId} {x : Operand} {f off s sz i o0 : Nat} {ft : TypeId} {sl : AV} (hs : StR w M θ σ) (hf : FrR w M θ σ π env a.tmps) (hd : okDst env o.dst = true) (ho : o.op = .fieldAddr t x f)
    (ht : fieldT P t f = some (off, s, ft)) (hx : look env x = .val (.elm sl sz i o0)) : OpS P w M θ σ π o a env σ (.val (.elm sl sz i (o0 + off))) := by
  have h1 := (look_sound hf x).1
  rw [hx] at h1
  generalize he : a.eval x = u at h1
  cases h1 with
  | elm _ _ _ _ g o1 len cap h2 h3 =>
    have e : o1 + (i * sz + (o0 + off)) = o1 + (i * sz + o0) + off := by omega
    exact .sameV (u := .pointer (some ⟨g, o1 + (i * sz + (o0 + off)), none⟩)) hs hf hd (by simp only [execOp, ho, he]; rw [Sem.run_bind, fieldAt_run ht, e]; rfl) (Cell.elm _ _ _ _ g o1 len cap h2 h3).rep

theorem op_nilCheck_plc {x : Operand} {t0 o0 : Nat} (hs : StR w M θ σ) (hf : FrR w M θ σ π env a.tmps) (hd : okDst env o.dst = true) (ho : o.op = .nilCheck x) (hx : look env x = .plc t0 o0) : OpS P w M θ σ π o a env σ (.plc t0 o0) := by
  have h1 := (look_sound hf x).1
  rw [hx] at h1
  obtain ⟨g, h2, h3⟩ := h1
  exact .same (u := .pointer (some ⟨g, o0, none⟩)) hs hf hd (by simp [execOp, ho, h3]) (by simp) (fun _ => ⟨g, h2, rfl⟩)

theorem op_nilCheck_val {x : Operand} {v : AV} (hs : StR w M θ σ) (hf : FrR w M θ σ π env a.tmps) (hd : okDst env o.dst = true) (ho : o.op = .nilCheck x) (hx : look env x = .val v)
    (hv : (∃ id off, v = .ptr id off) ∨ (∃ s sz i off, v = .elm s sz i off) ∨ ∃ f fi c, v = .fn f fi c) : OpS P w M θ σ π o a env σ (.val v) := by
  have h1 := (look_sound hf x).1
  rw [hx] at h1
  have h1' : Rep M θ v (a.eval x) := h1
  refine .sameV (u := a.eval x) hs hf hd ?_ h1'
  rcases hv with ⟨id, off, rfl⟩ | ⟨s, sz, i, off, rfl⟩ | ⟨f, fi, c, rfl⟩
  · obtain ⟨g, _, h3⟩ := h1'.ptr
    simp [execOp, ho, h3]
  · generalize he : a.eval x = u at h1'
    cases h1' with
    | elm _ _ _ _ g o1 len cap h2 h3 => simp [execOp, ho, he]
  · obtain ⟨fu, cu, h3, _⟩ := h1'.fn
    simp [execOp, ho, h3]

theorem op_field {t : TypeId} {x : Operand} {f off s : Nat} {ft : TypeId} {cs : List AV} {v : AV} (hs : StR w M θ σ) (hf : FrR w M θ σ π env a.tmps) (hd : okDst env o.dst = true) (ho : o.op = .field t x f)
    (ht : fieldT P t f = some (off, s, ft)) (hx : lookV env x = some (.agg cs)) (hv : partA P ft cs off = some v) : OpS P w M θ σ π o a env σ (.val v) := by
  obtain ⟨us, h1, h2⟩ := lookV_sound hf hx
  obtain ⟨fs, fd, h3, h4, h5, h6, h7, h8⟩ := fieldT_spec ht
  unfold partA at hv
  split at hv
  · rename_i ha
    split at hv
    · rename_i n hn
      split at hv
      · rename_i hle
        cases hv
        refine .sameV (u := .agg (us.extract off (off + n))) hs hf hd ?_ (RepA.rep ⟨_, rfl, ?_⟩)
        · simp [execOp, ho, h1, Instr.field, run_underlying h3, h4, asAgg, Go.part, h6, aggT_run ha, szOf_run hn, h5]
        · refine ⟨by simp [h2.1]; omega, fun i c hc => ?_⟩
          have hi : i < n := by
            have := (List.getElem?_eq_some_iff.1 hc).1
            simp at this; omega
          rw [List.getElem?_take_of_lt hi, List.getElem?_drop] at hc
          have := h2.2 (off + i) c hc
          have hl : off + i < us.size := by rw [h2.1]; omega
          have e : (us.extract off (off + n)).getD i undef = us.getD (off + i) undef := by
            simp only [Array.getD_eq_getD_getElem?, Array.getElem?_extract]
            rw [if_pos (by omega)]
          rw [e]; exact this
      · cases hv
    · cases hv
  · rename_i ha
    have hl : off < us.size := by rw [h2.1]; exact (List.getElem?_eq_some_iff.1 hv).1
    have e : us[off]? = some (us.getD off undef) := by simp [Array.getD_eq_getD_getElem?, hl]
    refine .sameV (u := us.getD off undef) hs hf hd ?_ (h2.2 off v hv).rep
    simp only [execOp, ho, h1, Instr.field, Sem.run_bind, run_underlying h3, h4, asAgg, Go.part, h6, aggT_run ha, h5, Result.andThen_ok, Sem.run_pure, Bool.false_eq_true, if_false, e]
  · cases hv

/-! Loads. -/

/-- The cells at an element's address. -/
theorem elm_cells {s : AV} {sz i : Nat} {g o len cap : Nat} {xs : List AV} {x : AV} (hs : StR w M θ σ) (hc : Cell M θ s (.slice (some ⟨g, o, none⟩) len cap)) (hi : i < len)
    (he : elems σ sz s = some xs) (hx : xs[i]? = some x) : ∀ j c, x.cells[j]? = some c → ∃ u, w.cell? ⟨g, o + (i * sz) + j, none⟩ = some u ∧ Cell M θ c u := by
  intro j c hj
  unfold elems at he
  split at he
  · rename_i f s' ys
    split at he
    · rename_i hsz
      cases he
      have hne : xs ≠ [] := by intro e; subst e; simp at hx
      have hss : s' = sz := by simpa [hne] using hsz
      subst hss
      generalize hv : Value.slice (some ⟨g, o, none⟩) len cap = u at hc
      cases hc with
      | list _ _ _ a0 _ u0 hc hm hf hs0 ha he =>
        cases hv
        obtain ⟨g', o', e, hmem⟩ := ha hne
        cases e
        refine ⟨u0 i j, ?_, he i x hx j c hj⟩
        rw [Nat.add_assoc]
        exact hs.mem _ _ _ (hmem i x hx j c hj)
    · cases he
  · rename_i s' id gen off len' lim
    split at he
    · rename_i s2 ys hob
      split at he
      · rename_i hcond
        simp only [Bool.and_eq_true, beq_iff_eq] at hcond
        obtain ⟨hsz0, rfl⟩ := hcond
        cases he
        obtain ⟨_, _, h2, h3, b, cap2, h4, h5, h6, h7⟩ := hs.ob _ _ hob
        generalize hv : Value.slice (some ⟨g, o, none⟩) len cap = u at hc
        cases hc with
        | row _ _ _ _ _ _ a0 cap0 cap1 b0 ht h1 hg hm hb hcap ha =>
          cases hv
          rw [h4] at ht
          simp only [Option.some.injEq, Prod.mk.injEq] at ht
          obtain ⟨rfl, rfl, hs2⟩ := ht
          subst hs2; subst hsz0
          have hx' : ys[off + i]? = some x := by
            rw [List.getElem?_take_of_lt hi, List.getElem?_drop] at hx; exact hx
          rcases ha with ha | ⟨g', hb', ha⟩
          · subst hcap
            split at ha <;> omega
          · subst hb'
            cases ha
            obtain ⟨cur, e, h8, h9, h10⟩ := h7
            have hc2 := h10 (off + i) x hx' j c hj
            have hsz := h3 x (List.mem_of_getElem? hx')
            have hj' : j < s2 := by rw [← hsz]; exact (List.getElem?_eq_some_iff.1 hj).1
            have hl : (off + i) * s2 + j < cur.size := by
              rw [h9]
              have : (off + i) * s2 + j < (off + i + 1) * s2 := by rw [Nat.add_mul (off + i) 1]; omega
              exact Nat.lt_of_lt_of_le this (Nat.mul_le_mul_right _ (by omega))
            refine ⟨_, ?_, hc2⟩
            rw [cell_of_row w g _ cur e (0, 0) h8]
            have e2 : off * s2 + i * s2 + j = (off + i) * s2 + j := by rw [Nat.add_mul]
            rw [e2]
            simp [Array.getD_eq_getD_getElem?, hl]
      · cases he
    · cases he
  · cases he

theorem load_run {t : TypeId} {sl : Slot} {v : AV} {u : Value} (hs : StR w M θ σ) (hf : FrR w M θ σ π env a.tmps) (hl : SlotR w M θ π 0 sl u) (hv : loadAt P env σ t sl = some v) :
    ∃ z g o, u = .pointer (some ⟨g, o, none⟩) ∧ (loadVar t ⟨g, o, none⟩).run P w = .ok z w ∧ RepA M θ v z := by
  unfold loadAt at hv
  split at hv
  · rename_i s off
    split at hv
    · rename_i cs hcs
      obtain ⟨g, h1, h2⟩ := hl
      obtain ⟨g', cur, e, h3, h4, h5, h6⟩ := hf.slot s _ hcs
      rw [h1] at h3; cases h3
      obtain ⟨z, hz, hr⟩ := partA_sound (M := M) (θ := θ) (w := w) (g := g) (o := 0) hv (fun j c hj => ⟨cur.getD j undef, by
        have hl : j < cur.size := by rw [h6.1]; exact (List.getElem?_eq_some_iff.1 hj).1
        rw [Nat.zero_add, cell_of_row w g j cur e (0, 0) h5]
        simp [Array.getD_eq_getD_getElem?, hl], h6.2 j c hj⟩)
      rw [Nat.zero_add] at hz
      exact ⟨z, g, off, h2, hz, hr⟩
    · cases hv
  · rename_i id off
    split at hv
    · rename_i cs hcs
      obtain ⟨g, h1, h2⟩ := Rep.ptr hl
      obtain ⟨_, g', cur, e, h3, h4, h6⟩ := hs.ob _ _ hcs
      rw [h1] at h3; cases h3
      obtain ⟨z, hz, hr⟩ := partA_sound (M := M) (θ := θ) (w := w) (g := g) (o := 0) hv (fun j c hj => ⟨cur.getD j undef, by
        have hl : j < cur.size := by rw [h6.1]; exact (List.getElem?_eq_some_iff.1 hj).1
        rw [Nat.zero_add, cell_of_row w g j cur e (0, 0) h4]
        simp [Array.getD_eq_getD_getElem?, hl], h6.2 j c hj⟩)
      rw [Nat.zero_add] at hz
      exact ⟨z, g, off, h2, hz, hr⟩
    · cases hv
  · rename_i s sz i off
    split at hv
    · rename_i xs hxs
      split at hv
      · rename_i x hx
        have hl' : Cell M θ (.elm s sz i off) u := hl
        cases hl' with
        | elm _ _ _ _ g o1 len cap h2 h3 =>
          obtain ⟨z, hz, hr⟩ := partA_sound (M := M) (θ := θ) (w := w) (g := g) (o := o1 + i * sz) hv (elm_cells hs h2 h3 hxs hx)
          exact ⟨z, g, _, rfl, by rw [← Nat.add_assoc]; exact hz, hr⟩
      · cases hv
    · cases hv
  · cases hv

theorem op_load {t : TypeId} {x : Operand} {v : AV} (hs : StR w M θ σ) (hf : FrR w M θ σ π env a.tmps) (hd : okDst env o.dst = true) (ho : o.op = .load t x)
    (hv : loadAt P env σ t (look env x) = some v) : OpS P w M θ σ π o a env σ (.val v) := by
  obtain ⟨z, g, o1, h1, h2, h3⟩ := load_run hs hf (look_sound hf x).1 hv
  exact .sameV (u := z) hs hf hd (by simp [execOp, ho, h1, Instr.loadAt, Instr.sureAddr, h2]) h3.rep

end
end Go.Can
