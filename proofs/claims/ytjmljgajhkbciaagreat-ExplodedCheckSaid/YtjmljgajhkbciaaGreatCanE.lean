/- The operations, second part: arithmetic and comparisons, addresses, loads. The operations, third part: variables and stores. The operations, fourth part: the small heap's objects. The operations, fifth part: maps. -/
import Derived.Test.YtjmljgajhkbciaaGreatCanA
set_option linter.unusedSimpArgs false
set_option linter.unusedVariables false
namespace Go.Can
open Go
section
variable {P : Program} {w : World} {M : Mem} {θ : Th} {σ : St} {π : Nat → Option Nat} {env : Env} {o : Oper} {a : Act}

theorem eqGuard_plain (op : BinOp) (t : TypeId) (x y : Operand) {u v : Value} (h1 : ∀ us, u ≠ .agg us) (h2 : u ≠ .nilIface) : (eqGuard op t x y u v).run P w = .ok () w := by
  cases u <;> first
    | exact absurd rfl (h1 _)
    | exact absurd rfl h2
    | (cases op <;> simp [eqGuard])

theorem run_eql_ptr {t : TypeId} {p q : Option Addr} {b : Bool} (h : (Op.equalIn 10000 t (.pointer p) (.pointer q)).run P w = .ok b w) : (binOp .eql t (.pointer p) (.pointer q)).run P w = .ok (.bool b) w := by
  have e : binOp .eql t (.pointer p) (.pointer q) = (do pure (.bool (← Op.equalIn 10000 t (.pointer p) (.pointer q)))) := rfl
  rw [e, Sem.run_bind, h]; rfl
theorem run_neq_ptr {t : TypeId} {p q : Option Addr} {b : Bool} (h : (Op.equalIn 10000 t (.pointer p) (.pointer q)).run P w = .ok b w) : (binOp .neq t (.pointer p) (.pointer q)).run P w = .ok (.bool !b) w := by
  have e : binOp .neq t (.pointer p) (.pointer q) = (do pure (.bool (!(← Op.equalIn 10000 t (.pointer p) (.pointer q))))) := rfl
  rw [e, Sem.run_bind, h]; rfl
theorem run_eql_map {t : TypeId} {p q : Option Nat} {b : Bool} (h : (Op.equalIn 10000 t (.map p) (.map q)).run P w = .ok b w) : (binOp .eql t (.map p) (.map q)).run P w = .ok (.bool b) w := by
  have e : binOp .eql t (.map p) (.map q) = (do pure (.bool (← Op.equalIn 10000 t (.map p) (.map q)))) := rfl
  rw [e, Sem.run_bind, h]; rfl
theorem run_neq_map {t : TypeId} {p q : Option Nat} {b : Bool} (h : (Op.equalIn 10000 t (.map p) (.map q)).run P w = .ok b w) : (binOp .neq t (.map p) (.map q)).run P w = .ok (.bool !b) w := by
  have e : binOp .neq t (.map p) (.map q) = (do pure (.bool (!(← Op.equalIn 10000 t (.map p) (.map q))))) := rfl
  rw [e, Sem.run_bind, h]; rfl
theorem run_eql_boolb {t : TypeId} {p q : Bool} {b : Bool} (h : (Op.equalIn 10000 t (.bool p) (.bool q)).run P w = .ok b w) : (binOp .eql t (.bool p) (.bool q)).run P w = .ok (.bool b) w := by
  have e : binOp .eql t (.bool p) (.bool q) = (do pure (.bool (← Op.equalIn 10000 t (.bool p) (.bool q)))) := rfl
  rw [e, Sem.run_bind, h]; rfl
theorem run_neq_boolb {t : TypeId} {p q : Bool} {b : Bool} (h : (Op.equalIn 10000 t (.bool p) (.bool q)).run P w = .ok b w) : (binOp .neq t (.bool p) (.bool q)).run P w = .ok (.bool !b) w := by
  have e : binOp .neq t (.bool p) (.bool q) = (do pure (.bool (!(← Op.equalIn 10000 t (.bool p) (.bool q))))) := rfl
  rw [e, Sem.run_bind, h]; rfl
theorem eqIn_nil_ptr (d : Nat) {t e : TypeId} (q : Option Addr) (h : P.underlying t = some (.pointer e)) : (Op.equalIn (d + 1) t (.pointer none) (.pointer q)).run P w = .ok q.isNone w := by simp [Op.equalIn, run_underlying h]
theorem eqIn_ptr_nil (d : Nat) {t e : TypeId} (q : Addr) (h : P.underlying t = some (.pointer e)) : (Op.equalIn (d + 1) t (.pointer (some q)) (.pointer none)).run P w = .ok false w := by simp [Op.equalIn, run_underlying h]
theorem eqIn_nil_map (d : Nat) {t k e : TypeId} (q : Option Nat) (h : P.underlying t = some (.map k e)) : (Op.equalIn (d + 1) t (.map none) (.map q)).run P w = .ok q.isNone w := by simp [Op.equalIn, run_underlying h]
theorem eqIn_map_nil (d : Nat) {t k e : TypeId} (q : Option Nat) (h : P.underlying t = some (.map k e)) : (Op.equalIn (d + 1) t (.map q) (.map none)).run P w = .ok q.isNone w := by cases q <;> simp [Op.equalIn, run_underlying h]
theorem eqIn_slice_nil (d : Nat) {t e : TypeId} (g : Addr) (n c : Nat) (h : P.underlying t = some (.slice e)) : (Op.equalIn (d + 1) t (.slice (some g) n c) (.slice none 0 0)).run P w = .ok false w := by simp [Op.equalIn, run_underlying h]

theorem binA_run {op : BinOp} {t : TypeId} {x y r : AV} {u v : Value} (h : binA P op t x y = some r) (hx : Rep M θ x u) (hy : Rep M θ y v) (p q : Operand) :
    ∃ z, (do eqGuard op t p q u v; binOp op t u v : Sem Value).run P w = .ok z w ∧ Rep M θ r z := by
  unfold binA at h
  split at h
  · rename_i k n k' n'
    obtain rfl := hx.int; obtain rfl := hy.int
    rw [Sem.run_bind, eqGuard_plain op t p q (by simp) (by simp), Result.andThen_ok]
    split at h
    · split at h
      · cases h
      · rename_i hb; cases h
        exact ⟨_, by simp [binOp, Op.shift, hb], (Cell.int _ _).rep⟩
    · split at h
      · cases h
      · rename_i hb; cases h
        exact ⟨_, by simp [binOp, Op.shift, hb], (Cell.int _ _).rep⟩
    · split at h
      · rename_i hk; subst hk
        split at h
        · cases h; exact ⟨_, by simp [binOp, Op.intArith], (Cell.int _ _).rep⟩
        · cases h; exact ⟨_, by simp [binOp, Op.intArith], (Cell.int _ _).rep⟩
        · cases h; exact ⟨_, by simp [binOp, Op.intArith], (Cell.int _ _).rep⟩
        · split at h
          · cases h
          · rename_i hb; cases h; exact ⟨_, by simp [binOp, Op.intDiv, hb], (Cell.int _ _).rep⟩
        · split at h
          · cases h
          · rename_i hb; cases h; exact ⟨_, by simp [binOp, Op.intDiv, hb], (Cell.int _ _).rep⟩
        · cases h; exact ⟨_, by simp [binOp, Op.intCmp], (Cell.bool _).rep⟩
        · cases h; exact ⟨_, by simp [binOp, Op.intCmp], (Cell.bool _).rep⟩
        · cases h; exact ⟨_, by simp [binOp, Op.intCmp], (Cell.bool _).rep⟩
        · cases h; exact ⟨_, by simp [binOp, Op.intCmp], (Cell.bool _).rep⟩
        · cases h; exact ⟨_, by simp [binOp, Op.intCmp], (Cell.bool _).rep⟩
        · cases h; exact ⟨_, by simp [binOp, Op.intCmp], (Cell.bool _).rep⟩
        · cases h
      · cases h
  · rename_i s s'
    obtain rfl := hx.str; obtain rfl := hy.str
    rw [Sem.run_bind, eqGuard_plain op t p q (by simp) (by simp), Result.andThen_ok]
    split at h
    · cases h; exact ⟨.bool (s.toList == s'.toList), by simp [binOp, Op.stringOp], (Cell.bool _).rep⟩
    · cases h; exact ⟨.bool !(s.toList == s'.toList), by simp [binOp, Op.stringOp], (Cell.bool _).rep⟩
    · cases h
  · rename_i b b'
    obtain rfl := hx.bool; obtain rfl := hy.bool
    rw [Sem.run_bind, eqGuard_plain op t p q (by simp) (by simp), Result.andThen_ok]
    split at h
    · rename_i hb; cases h
      exact ⟨.bool (b == b'), run_eql_boolb (run_equalIn_bool w 9999 t b b' hb), (Cell.bool _).rep⟩
    · rename_i hb; cases h
      exact ⟨.bool !(b == b'), run_neq_boolb (run_equalIn_bool w 9999 t b b' hb), (Cell.bool _).rep⟩
    · cases h
  · rename_i cx cy
    split at h
    · rename_i hk
      have hg : P.eqGuardType P.depth t = false := by
        simp only [keyOk] at hk
        split at hk
        · simp only [Bool.and_eq_true] at hk
          obtain ⟨_, _, _, _, _, h5⟩ := flatT_spec hk.1
          exact h5
        · cases hk
      have key : ∀ b, cellsEq cx cy = some b → (Op.equalIn 10000 t u v).run P w = .ok b w := fun b hb =>
        keyEq_run (d := 9998) (x := .agg cx) (y := .agg cy) (by simpa [keyEq] using hb) hx hy hk
      obtain ⟨us, rfl, _⟩ := hx
      obtain ⟨vs, rfl, _⟩ := hy
      rw [Sem.run_bind, run_eqGuard_agg w op t p q us vs hg, Result.andThen_ok]
      split at h
      · cases e : cellsEq cx cy with
        | none => rw [e] at h; cases h
        | some b =>
          rw [e] at h; cases h
          exact ⟨.bool b, by rw [run_eql_struct, key b e]; rfl, (Cell.bool _).rep⟩
      · cases e : cellsEq cx cy with
        | none => rw [e] at h; cases h
        | some b =>
          rw [e] at h; cases h
          exact ⟨.bool !b, by rw [run_neq_struct, key b e]; rfl, (Cell.bool _).rep⟩
      · cases h
    · cases h
  · obtain rfl := hx.nilp; obtain rfl := hy.nilp
    rw [Sem.run_bind, eqGuard_plain op t p q (by simp) (by simp), Result.andThen_ok]
    split at h
    · rename_i e hb; cases h; exact ⟨_, run_eql_ptr (eqIn_nil_ptr 9999 none hb), (Cell.bool _).rep⟩
    · rename_i e hb; cases h; exact ⟨_, run_neq_ptr (eqIn_nil_ptr 9999 none hb), (Cell.bool _).rep⟩
    · cases h
  · obtain ⟨g, _, rfl⟩ := hx.ptr; obtain rfl := hy.nilp
    rw [Sem.run_bind, eqGuard_plain op t p q (by simp) (by simp), Result.andThen_ok]
    split at h
    · rename_i e hb; cases h; exact ⟨_, run_eql_ptr (eqIn_ptr_nil 9999 _ hb), (Cell.bool _).rep⟩
    · rename_i e hb; cases h; exact ⟨_, run_neq_ptr (eqIn_ptr_nil 9999 _ hb), (Cell.bool _).rep⟩
    · cases h
  · obtain rfl := hx.nilp; obtain ⟨g, _, rfl⟩ := hy.ptr
    rw [Sem.run_bind, eqGuard_plain op t p q (by simp) (by simp), Result.andThen_ok]
    split at h
    · rename_i e hb; cases h; exact ⟨_, run_eql_ptr (eqIn_nil_ptr 9999 (some _) hb), (Cell.bool _).rep⟩
    · rename_i e hb; cases h; exact ⟨_, run_neq_ptr (eqIn_nil_ptr 9999 (some _) hb), (Cell.bool _).rep⟩
    · cases h
  · rename_i r'
    obtain rfl := hy.mapN
    cases r' with
    | none =>
      obtain rfl := hx.mapN
      rw [Sem.run_bind, eqGuard_plain op t p q (by simp) (by simp), Result.andThen_ok]
      split at h
      · rename_i e e' hb; cases h; exact ⟨_, run_eql_map (eqIn_map_nil 9999 none hb), (Cell.bool _).rep⟩
      · rename_i e e' hb; cases h; exact ⟨_, run_neq_map (eqIn_map_nil 9999 none hb), (Cell.bool _).rep⟩
      · cases h
    | some id =>
      obtain ⟨g, _, rfl⟩ := hx.mapS
      rw [Sem.run_bind, eqGuard_plain op t p q (by simp) (by simp), Result.andThen_ok]
      split at h
      · rename_i e e' hb; cases h; exact ⟨_, run_eql_map (eqIn_map_nil 9999 (some _) hb), (Cell.bool _).rep⟩
      · rename_i e e' hb; cases h; exact ⟨_, run_neq_map (eqIn_map_nil 9999 (some _) hb), (Cell.bool _).rep⟩
      · cases h
  · cases h

theorem op_binOp {op : BinOp} {t t' : TypeId} {x y : Operand} {v v' r : AV} (hs : StR w M θ σ) (hf : FrR w M θ σ π env a.tmps) (hd : okDst env o.dst = true) (ho : o.op = .binOp op t x y t')
    (hx : lookV env x = some v) (hy : lookV env y = some v') (hr : binA P op t v v' = some r) : OpS P w M θ σ π o a env σ (.val r) := by
  obtain ⟨z, h1, h2⟩ := binA_run (P := P) (w := w) hr (lookV_sound hf hx).rep (lookV_sound hf hy).rep x y
  refine .sameV (u := z) hs hf hd ?_ h2
  simp only [execOp, ho]
  rw [Sem.run_bind, h1]
  simp

theorem op_nilEq {op : BinOp} {t t' : TypeId} {x y : Operand} {v : AV} (hs : StR w M θ σ) (hf : FrR w M θ σ π env a.tmps) (hd : okDst env o.dst = true) (ho : o.op = .binOp op t x y t')
    (hx : lookV env x = some v) (hr : nilEq P op t y v = true) : OpS P w M θ σ π o a env σ (.val (.bool false)) := by
  unfold nilEq at hr
  split at hr
  · rename_i f sz z zs e he
    have h1 := (lookV_sound hf hx).rep
    obtain ⟨g, cap, hg⟩ : ∃ g cap, a.eval x = .slice (some g) (zs.length + 1) cap := by
      have h2 : Cell M θ (.list f sz (z :: zs)) (a.eval x) := h1
      generalize a.eval x = u at h2
      cases h2 with
      | list _ _ _ a cap uu hc hm hf hs ha he =>
        obtain ⟨g, o, rfl, _⟩ := ha (by simp)
        exact ⟨_, _, rfl⟩
    refine .sameV (u := .bool false) hs hf hd ?_ (Cell.bool _).rep
    have hz : (do eqGuard .eql t x (.const (.slice none 0 0)) (a.eval x) (a.eval (.const (.slice none 0 0))); binOp .eql t (a.eval x) (a.eval (.const (.slice none 0 0))) : Sem Value).run P w = .ok (.bool false) w := by
      have e0 : a.eval (.const (.slice none 0 0)) = .slice none 0 0 := rfl
      rw [hg, e0, Sem.run_bind, eqGuard_plain .eql t _ _ (by simp) (by simp), Result.andThen_ok]
      have e1 : binOp .eql t (.slice (some g) (zs.length + 1) cap) (.slice none 0 0) = (do pure (.bool (← Op.equalIn 10000 t (.slice (some g) (zs.length + 1) cap) (.slice none 0 0)))) := rfl
      have e2 : (Op.equalIn 10000 t (.slice (some g) (zs.length + 1) cap) (.slice none 0 0)).run P w = .ok false w := eqIn_slice_nil 9999 g (zs.length + 1) cap he
      rw [e1, Sem.run_bind, e2]; rfl
    simp only [execOp, ho]
    rw [Sem.run_bind, hz]
    simp
  · cases hr

/-! Addresses. -/

theorem fieldT_spec {t : TypeId} {f off s : Nat} {ft : TypeId} (h : fieldT P t f = some (off, s, ft)) :
    ∃ fs fd, P.underlying t = some (.struct fs) ∧ fs[f]? = some fd ∧ fd.offset = off ∧ fd.type = ft ∧ szOf P ft = some s ∧ s ≠ 0 := by
  unfold fieldT at h
  split at h
  · rename_i fs hfs
    split at h
    · rename_i fd hfd
      split at h
      · rename_i s' hs'
        split at h
        · cases h
        · rename_i h0; cases h
          exact ⟨fs, fd, hfs, hfd, rfl, rfl, hs', h0⟩
      · cases h
    · cases h
  · cases h

theorem fieldAt_run {t : TypeId} {f off s : Nat} {ft : TypeId} (h : fieldT P t f = some (off, s, ft)) (g o : Nat) :
    (Instr.fieldAt t (.pointer (some ⟨g, o, none⟩)) f).run P w = .ok (.pointer (some ⟨g, o + off, none⟩)) w := by
  obtain ⟨fs, fd, h1, h2, h3, h4, h5, h6⟩ := fieldT_spec h
  simp [Instr.fieldAt, run_underlying h1, h2, Instr.sureAddr, fieldPlace, h4, szOf_run h5, h6, h3, addr_add]

theorem op_fieldAddr_plc {t : TypeId} {x : Operand} {f off s t0 o0 : Nat} {ft : TypeId} (hs : StR w M θ σ) (hf : FrR w M θ σ π env a.tmps) (hd : okDst env o.dst = true) (ho : o.op = .fieldAddr t x f)
    (ht : fieldT P t f = some (off, s, ft)) (hx : look env x = .plc t0 o0) : OpS P w M θ σ π o a env σ (.plc t0 (o0 + off)) := by
  have h1 := (look_sound hf x).1
  rw [hx] at h1
  obtain ⟨g, h2, h3⟩ := h1
  exact .same (u := .pointer (some ⟨g, o0 + off, none⟩)) hs hf hd (by simp only [execOp, ho, h3]; rw [Sem.run_bind, fieldAt_run ht]; rfl) (by simp) (fun _ => ⟨g, h2, rfl⟩)

theorem op_fieldAddr_ptr {t : TypeId} {x : Operand} {f off s id o0 : Nat} {ft : TypeId} (hs : StR w M θ σ) (hf : FrR w M θ σ π env a.tmps) (hd : okDst env o.dst = true) (ho : o.op = .fieldAddr t x f)
    (ht : fieldT P t f = some (off, s, ft)) (hx : look env x = .val (.ptr id o0)) : OpS P w M θ σ π o a env σ (.val (.ptr id (o0 + off))) := by
  have h1 := (look_sound hf x).1
  rw [hx] at h1
  obtain ⟨g, h2, h3⟩ := Rep.ptr h1
  exact .sameV (u := .pointer (some ⟨g, o0 + off, none⟩)) hs hf hd (by simp only [execOp, ho, h3]; rw [Sem.run_bind, fieldAt_run ht]; rfl) (Cell.ptr _ _ g h2).rep

theorem op_fieldAddr_elm {t : TypeId} {x : Operand} {f off s sz i o0 : Nat} {ft : TypeId} {sl : AV} (hs : StR w M θ σ) (hf : FrR w M θ σ π env a.tmps) (hd : okDst env o.dst = true) (ho : o.op = .fieldAddr t x f)
    (ht : fieldT P t f = some (off, s, ft)) (hx : look env x = .val (.elm sl sz i o0)) : OpS P w M θ σ π o a env σ (.val (.elm sl sz i (o0 + off))) := by
  have h1 := (look_sound hf x).1
  rw [hx] at h1
  generalize he : a.eval x = u at h1
  cases h1 with
  | elm _ _ _ _ g o1 len cap h2 h3 =>
    have e : o1 + (i * sz + (o0 + off)) = o1 + (i * sz + o0) + off := by omega
    exact .sameV (u := .pointer (some ⟨g, o1 + (i * sz + (o0 + off)), none⟩)) hs hf hd (by simp only [execOp, ho, he]; rw [Sem.run_bind, fieldAt_run ht, e]; rfl) (Cell.elm _ _ _ _ g o1 len cap h2 h3).rep

theorem op_nilCheck_plc {x : Operand} {t0 o0 : Nat} (hs : StR w M θ σ) (hf : FrR w M θ σ π env a.tmps) (hd : okDst env o.dst = true) (ho : o.op = .nilCheck x) (hx : look env x = .plc t0 o0) : OpS P w M θ σ π o a env σ (.plc t0 o0) := by
  have h1 := (look_sound hf x).1
  rw [hx] at h1
  obtain ⟨g, h2, h3⟩ := h1
  exact .same (u := .pointer (some ⟨g, o0, none⟩)) hs hf hd (by simp [execOp, ho, h3]) (by simp) (fun _ => ⟨g, h2, rfl⟩)

theorem op_nilCheck_val {x : Operand} {v : AV} (hs : StR w M θ σ) (hf : FrR w M θ σ π env a.tmps) (hd : okDst env o.dst = true) (ho : o.op = .nilCheck x) (hx : look env x = .val v)
    (hv : (∃ id off, v = .ptr id off) ∨ (∃ s sz i off, v = .elm s sz i off) ∨ ∃ f fi c, v = .fn f fi c) : OpS P w M θ σ π o a env σ (.val v) := by
  have h1 := (look_sound hf x).1
  rw [hx] at h1
  have h1' : Rep M θ v (a.eval x) := h1
  refine .sameV (u := a.eval x) hs hf hd ?_ h1'
  rcases hv with ⟨id, off, rfl⟩ | ⟨s, sz, i, off, rfl⟩ | ⟨f, fi, c, rfl⟩
  · obtain ⟨g, _, h3⟩ := h1'.ptr
    simp [execOp, ho, h3]
  · generalize he : a.eval x = u at h1'
    cases h1' with
    | elm _ _ _ _ g o1 len cap h2 h3 => simp [execOp, ho, he]
  · obtain ⟨fu, cu, h3, _⟩ := h1'.fn
    simp [execOp, ho, h3]

theorem op_field {t : TypeId} {x : Operand} {f off s : Nat} {ft : TypeId} {cs : List AV} {v : AV} (hs : StR w M θ σ) (hf : FrR w M θ σ π env a.tmps) (hd : okDst env o.dst = true) (ho : o.op = .field t x f)
    (ht : fieldT P t f = some (off, s, ft)) (hx : lookV env x = some (.agg cs)) (hv : partA P ft cs off = some v) : OpS P w M θ σ π o a env σ (.val v) := by
  obtain ⟨us, h1, h2⟩ := lookV_sound hf hx
  obtain ⟨fs, fd, h3, h4, h5, h6, h7, h8⟩ := fieldT_spec ht
  unfold partA at hv
  split at hv
  · rename_i ha
    split at hv
    · rename_i n hn
      split at hv
      · rename_i hle
        cases hv
        refine .sameV (u := .agg (us.extract off (off + n))) hs hf hd ?_ (RepA.rep ⟨_, rfl, ?_⟩)
        · simp [execOp, ho, h1, Instr.field, run_underlying h3, h4, asAgg, Go.part, h6, aggT_run ha, szOf_run hn, h5]
        · refine ⟨by simp [h2.1]; omega, fun i c hc => ?_⟩
          have hi : i < n := by
            have := (List.getElem?_eq_some_iff.1 hc).1
            simp at this; omega
          rw [List.getElem?_take_of_lt hi, List.getElem?_drop] at hc
          have := h2.2 (off + i) c hc
          have hl : off + i < us.size := by rw [h2.1]; omega
          have e : (us.extract off (off + n)).getD i undef = us.getD (off + i) undef := by
            simp only [Array.getD_eq_getD_getElem?, Array.getElem?_extract]
            rw [if_pos (by omega)]
          rw [e]; exact this
      · cases hv
    · cases hv
  · rename_i ha
    have hl : off < us.size := by rw [h2.1]; exact (List.getElem?_eq_some_iff.1 hv).1
    have e : us[off]? = some (us.getD off undef) := by simp [Array.getD_eq_getD_getElem?, hl]
    refine .sameV (u := us.getD off undef) hs hf hd ?_ (h2.2 off v hv).rep
    simp only [execOp, ho, h1, Instr.field, Sem.run_bind, run_underlying h3, h4, asAgg, Go.part, h6, aggT_run ha, h5, Result.andThen_ok, Sem.run_pure, Bool.false_eq_true, if_false, e]
  · cases hv

/-! Loads. -/

/-- The cells at an element's address. -/
theorem elm_cells {s : AV} {sz i : Nat} {g o len cap : Nat} {xs : List AV} {x : AV} (hs : StR w M θ σ) (hc : Cell M θ s (.slice (some ⟨g, o, none⟩) len cap)) (hi : i < len)
    (he : elems σ sz s = some xs) (hx : xs[i]? = some x) : ∀ j c, x.cells[j]? = some c → ∃ u, w.cell? ⟨g, o + (i * sz) + j, none⟩ = some u ∧ Cell M θ c u := by
  intro j c hj
  unfold elems at he
  split at he
  · rename_i f s' ys
    split at he
    · rename_i hsz
      cases he
      have hne : xs ≠ [] := by intro e; subst e; simp at hx
      have hss : s' = sz := by simpa [hne] using hsz
      subst hss
      generalize hv : Value.slice (some ⟨g, o, none⟩) len cap = u at hc
      cases hc with
      | list _ _ _ a0 _ u0 hc hm hf hs0 ha he =>
        cases hv
        obtain ⟨g', o', e, hmem⟩ := ha hne
        cases e
        refine ⟨u0 i j, ?_, he i x hx j c hj⟩
        rw [Nat.add_assoc]
        exact hs.mem _ _ _ (hmem i x hx j c hj)
    · cases he
  · rename_i s' id gen off len' lim
    split at he
    · rename_i s2 ys hob
      split at he
      · rename_i hcond
        simp only [Bool.and_eq_true, beq_iff_eq] at hcond
        obtain ⟨hsz0, rfl⟩ := hcond
        cases he
        obtain ⟨_, _, h2, h3, b, cap2, h4, h5, h6, h7⟩ := hs.ob _ _ hob
        generalize hv : Value.slice (some ⟨g, o, none⟩) len cap = u at hc
        cases hc with
        | row _ _ _ _ _ _ a0 cap0 cap1 b0 ht h1 hg hm hb hcap ha =>
          cases hv
          rw [h4] at ht
          simp only [Option.some.injEq, Prod.mk.injEq] at ht
          obtain ⟨rfl, rfl, hs2⟩ := ht
          subst hs2; subst hsz0
          have hx' : ys[off + i]? = some x := by
            rw [List.getElem?_take_of_lt hi, List.getElem?_drop] at hx; exact hx
          rcases ha with ha | ⟨g', hb', ha⟩
          · subst hcap
            split at ha <;> omega
          · subst hb'
            cases ha
            obtain ⟨cur, e, h8, h9, h10⟩ := h7
            have hc2 := h10 (off + i) x hx' j c hj
            have hsz := h3 x (List.mem_of_getElem? hx')
            have hj' : j < s2 := by rw [← hsz]; exact (List.getElem?_eq_some_iff.1 hj).1
            have hl : (off + i) * s2 + j < cur.size := by
              rw [h9]
              have : (off + i) * s2 + j < (off + i + 1) * s2 := by rw [Nat.add_mul (off + i) 1]; omega
              exact Nat.lt_of_lt_of_le this (Nat.mul_le_mul_right _ (by omega))
            refine ⟨_, ?_, hc2⟩
            rw [cell_of_row w g _ cur e (0, 0) h8]
            have e2 : off * s2 + i * s2 + j = (off + i) * s2 + j := by rw [Nat.add_mul]
            rw [e2]
            simp [Array.getD_eq_getD_getElem?, hl]
      · cases he
    · cases he
  · cases he

theorem load_run {t : TypeId} {sl : Slot} {v : AV} {u : Value} (hs : StR w M θ σ) (hf : FrR w M θ σ π env a.tmps) (hl : SlotR w M θ π 0 sl u) (hv : loadAt P env σ t sl = some v) :
    ∃ z g o, u = .pointer (some ⟨g, o, none⟩) ∧ (loadVar t ⟨g, o, none⟩).run P w = .ok z w ∧ RepA M θ v z := by
  unfold loadAt at hv
  split at hv
  · rename_i s off
    split at hv
    · rename_i cs hcs
      obtain ⟨g, h1, h2⟩ := hl
      obtain ⟨g', cur, e, h3, h4, h5, h6⟩ := hf.slot s _ hcs
      rw [h1] at h3; cases h3
      obtain ⟨z, hz, hr⟩ := partA_sound (M := M) (θ := θ) (w := w) (g := g) (o := 0) hv (fun j c hj => ⟨cur.getD j undef, by
        have hl : j < cur.size := by rw [h6.1]; exact (List.getElem?_eq_some_iff.1 hj).1
        rw [Nat.zero_add, cell_of_row w g j cur e (0, 0) h5]
        simp [Array.getD_eq_getD_getElem?, hl], h6.2 j c hj⟩)
      rw [Nat.zero_add] at hz
      exact ⟨z, g, off, h2, hz, hr⟩
    · cases hv
  · rename_i id off
    split at hv
    · rename_i cs hcs
      obtain ⟨g, h1, h2⟩ := Rep.ptr hl
      obtain ⟨_, g', cur, e, h3, h4, h6⟩ := hs.ob _ _ hcs
      rw [h1] at h3; cases h3
      obtain ⟨z, hz, hr⟩ := partA_sound (M := M) (θ := θ) (w := w) (g := g) (o := 0) hv (fun j c hj => ⟨cur.getD j undef, by
        have hl : j < cur.size := by rw [h6.1]; exact (List.getElem?_eq_some_iff.1 hj).1
        rw [Nat.zero_add, cell_of_row w g j cur e (0, 0) h4]
        simp [Array.getD_eq_getD_getElem?, hl], h6.2 j c hj⟩)
      rw [Nat.zero_add] at hz
      exact ⟨z, g, off, h2, hz, hr⟩
    · cases hv
  · rename_i s sz i off
    split at hv
    · rename_i xs hxs
      split at hv
      · rename_i x hx
        have hl' : Cell M θ (.elm s sz i off) u := hl
        cases hl' with
        | elm _ _ _ _ g o1 len cap h2 h3 =>
          obtain ⟨z, hz, hr⟩ := partA_sound (M := M) (θ := θ) (w := w) (g := g) (o := o1 + i * sz) hv (elm_cells hs h2 h3 hxs hx)
          exact ⟨z, g, _, rfl, by rw [← Nat.add_assoc]; exact hz, hr⟩
      · cases hv
    · cases hv
  · cases hv

theorem op_load {t : TypeId} {x : Operand} {v : AV} (hs : StR w M θ σ) (hf : FrR w M θ σ π env a.tmps) (hd : okDst env o.dst = true) (ho : o.op = .load t x)
    (hv : loadAt P env σ t (look env x) = some v) : OpS P w M θ σ π o a env σ (.val v) := by
  obtain ⟨z, g, o1, h1, h2, h3⟩ := load_run hs hf (look_sound hf x).1 hv
  exact .sameV (u := z) hs hf hd (by simp [execOp, ho, h1, Instr.loadAt, Instr.sureAddr, h2]) h3.rep

end
end Go.Can

namespace Go.Can
open Go Go.RowKit
section
variable {P : Program} {w : World} {M : Mem} {θ : Th} {σ : St} {π : Nat → Option Nat} {env : Env} {o : Oper} {a : Act}

theorem getD_append_left {xs ys : List Value} {i : Nat} (h : i < xs.length) : (xs ++ ys).toArray.getD i undef = xs.toArray.getD i undef := by
  simp [Array.getD_eq_getD_getElem?, List.getElem?_append_left h]

theorem splice_spec {cs vs cs' : List AV} {off : Nat} (h : splice cs off vs = some cs') : off + vs.length ≤ cs.length ∧ cs' = cs.take off ++ vs ++ cs.drop (off + vs.length) ∧ cs'.length = cs.length := by
  unfold splice at h
  split at h
  · cases h
    refine ⟨by assumption, rfl, ?_⟩
    simp; omega
  · cases h

theorem getElem?_splice {α : Type} {l vs : List α} {off : Nat} (h : off + vs.length ≤ l.length) (i : Nat) :
    (l.take off ++ vs ++ l.drop (off + vs.length))[i]? = if i < off then l[i]? else if i < off + vs.length then vs[i - off]? else l[i]? := by
  have e : (l.take off).length = off := by simp; omega
  by_cases h1 : i < off
  · rw [if_pos h1, List.append_assoc, List.getElem?_append_left (by omega), List.getElem?_take_of_lt h1]
  · rw [if_neg h1, List.append_assoc, List.getElem?_append_right (by omega), e]
    by_cases h2 : i < off + vs.length
    · rw [if_pos h2, List.getElem?_append_left (by omega)]
    · rw [if_neg h2, List.getElem?_append_right (by omega), List.getElem?_drop]
      congr 1; omega

theorem splice_cells {cs vs cs' : List AV} {off : Nat} {cur us : Array Value} (h : splice cs off vs = some cs') (hc : CellsR M θ cs cur) (hu : CellsR M θ vs us) :
    CellsR M θ cs' (cur.toList.take off ++ us.toList ++ cur.toList.drop (off + us.toList.length)).toArray := by
  obtain ⟨h1, rfl, _⟩ := splice_spec h
  have hul : us.toList.length = vs.length := by simpa using hu.1
  have hcl : cur.toList.length = cs.length := by simpa using hc.1
  refine ⟨by simp [hc.1, hu.1], fun i c hi => ?_⟩
  rw [getElem?_splice h1] at hi
  have e : ((cur.toList.take off ++ us.toList ++ cur.toList.drop (off + us.toList.length)).toArray).getD i undef =
      if i < off then cur.getD i undef else if i < off + vs.length then us.getD (i - off) undef else cur.getD i undef := by
    simp only [Array.getD_eq_getD_getElem?, List.getElem?_toArray]
    rw [getElem?_splice (by omega), hul]
    split
    · simp
    · split <;> simp
  rw [e]
  split at hi
  · rename_i h2; rw [if_pos h2]; exact hc.2 i c hi
  · rename_i h2
    rw [if_neg h2]
    split at hi
    · rename_i h3; rw [if_pos h3]; exact hu.2 _ c hi
    · rename_i h3; rw [if_neg h3]; exact hc.2 i c hi

theorem CellsR.one {cs : List AV} {us : Array Value} (h : CellsR M θ cs us) : ∀ u ∈ us.toList, u.oneCell' = true := by
  intro u hu
  obtain ⟨i, hi, rfl⟩ := List.getElem_of_mem hu
  have hl : i < us.size := by simpa using hi
  have hl2 : i < cs.length := by rw [← h.1]; exact hl
  have := (h.2 i _ (List.getElem?_eq_getElem hl2)).oneCell
  simpa [Array.getD_eq_getD_getElem?, hl] using this

/-- A store of a value's cells into a block. -/
theorem storeVar_run {t e : TypeId} {g o1 : Nat} {u : Value} {vs : List AV} {cur : Array Value} (hg : w.heap[g]? = some (.cells cur e (0, 0))) (hu : CellsR M θ vs u.cells) (ht : szOf P t = some vs.length)
    (hle : o1 + vs.length ≤ cur.size) :
    (storeVar t ⟨g, o1, none⟩ u).run P w = .ok () (w.setRow g (cur.toList.take o1 ++ u.cells.toList ++ cur.toList.drop (o1 + u.cells.toList.length)).toArray) := by
  have h1 := run_storeCells_at P g o1 e u.cells.toList 0 cur w hg (by simp [hu.1]; omega) hu.one
  simp only [Nat.add_zero] at h1
  simp only [storeVar, Sem.run_bind, szOf_run ht, Result.andThen_ok, hu.1, ne_eq, not_true_eq_false, if_false, h1]

theorem mem_of_notin {w' : World} (hs : StR w M θ σ) {g : Nat} (hg : ∀ o, M g o = none) (hw : ∀ k, k ≠ g → w'.heap[k]? = w.heap[k]?) : ∀ k o v, M k o = some v → w'.heap[k]? = w.heap[k]? :=
  fun k o v e => hw k (fun h => by subst h; rw [hg o] at e; cases e)

/-- A variable is written. -/
theorem var_set {s g : Nat} {cs cs' : List AV} {cur' : Array Value} (hs : StR w M θ σ) (hf : FrR w M θ σ π env a.tmps) (hv : env[s]? = some (.var cs)) (hg : π s = some g) (hc : CellsR M θ cs' cur') :
    Ext w M θ σ π (w.setRow g cur') M θ σ π ∧ StR (w.setRow g cur') M θ σ ∧ FrR (w.setRow g cur') M θ σ π (env.set s (.var cs')) a.tmps := by
  have hk : ∀ k, k ≠ g → (w.setRow g cur').heap[k]? = w.heap[k]? := fun k h => setRow_other w g k cur' h
  have ho := hf.out s g hg
  have hlt : s < env.length := (List.getElem?_eq_some_iff.1 hv).1
  refine ⟨⟨rfl, rfl, rfl, by simp, M.le_refl, θ.le_refl, fun k _ _ h2 => hk k (fun e => h2 s (by rw [hg, e])), fun _ h => .inl h, fun s' k h => .inl ⟨s', h⟩, fun _ _ _ h => .inl h⟩, ?_, ?_⟩
  · exact hs.keep (fun k h => hk k (fun e => ho.2 (e ▸ h))) (mem_of_notin hs ho.1 hk)
  · refine ⟨by simp [hf.size], fun t sl ht => ?_, fun t k h => ?_, hf.inj, hf.out⟩
    · by_cases e : t = s
      · subst e
        rw [List.getElem?_set_self hlt] at ht; cases ht
        obtain ⟨g', cur, e1, h1, h2, h3, _⟩ := hf.slot t _ hv
        rw [hg] at h1; cases h1
        exact ⟨g, cur', e1, hg, h2, setRow_heap w g cur cur' e1 _ h3, hc⟩
      · rw [List.getElem?_set_ne (Ne.symm e)] at ht
        exact (hf.slot t sl ht).mono M.le_refl θ.le_refl (fun k h => hk k (fun e' => e (hf.inj t s g (by rw [← e', h]) hg)))
    · by_cases e : t = s
      · subst e; exact ⟨cs', List.getElem?_set_self hlt⟩
      · obtain ⟨cs1, h1⟩ := hf.dom t k h
        exact ⟨cs1, by rw [List.getElem?_set_ne (Ne.symm e)]; exact h1⟩

/-- A new variable. -/
theorem var_new {d : Tmp} {cs : List AV} {cur : Array Value} {e : TypeId} (hs : StR w M θ σ) (hf : FrR w M θ σ π env a.tmps) (hd : okDst env (some d) = true) (hc : CellsR M θ cs cur) :
    ∃ π', Ext w M θ σ π (w.alloc (.cells cur e)) M θ σ π' ∧ StR (w.alloc (.cells cur e)) M θ σ ∧
      FrR (w.alloc (.cells cur e)) M θ σ π' (putA env (some d) (.var cs)) (a.put (some d) (.pointer (some ⟨w.heap.size, 0, none⟩))).tmps := by
  have hlt : d < env.length := by
    refine Decidable.byContradiction fun hlt => ?_
    have : env[d]? = none := List.getElem?_eq_none (Nat.le_of_not_lt hlt)
    simp only [okDst, this] at hd; cases hd
  have hnv : ∀ cs, env[d]? ≠ some (.var cs) := fun cs e => by simp only [okDst, e] at hd; cases hd
  have hnd : π d = none := by
    cases h : π d with
    | none => rfl
    | some g => obtain ⟨cs, h1⟩ := hf.dom d g h; exact absurd h1 (hnv cs)
  have hk : ∀ k, k < w.heap.size → (w.alloc (.cells cur e)).heap[k]? = w.heap[k]? := fun k h => Below.heap_alloc w _ k h
  have hmlt : ∀ g o v, M g o = some v → g < w.heap.size := fun g o v e => World.block_lt_of_cell? w _ (hs.mem g o v e)
  let π' : Nat → Option Nat := fun s => if s = d then some w.heap.size else π s
  have hπ : ∀ s g, π' s = some g → (s = d ∧ g = w.heap.size) ∨ (s ≠ d ∧ π s = some g) := by
    intro s g h
    simp only [π'] at h
    split at h
    · rename_i e; cases h; exact .inl ⟨e, rfl⟩
    · rename_i e; exact .inr ⟨e, h⟩
  refine ⟨π', ⟨rfl, rfl, rfl, by simp, M.le_refl, θ.le_refl, fun k h1 _ _ => hk k h1, fun _ h => .inl h, fun s g h => ?_, fun _ _ _ h => .inl h⟩, ?_, ?_⟩
  · rcases hπ s g h with ⟨_, rfl⟩ | ⟨_, h1⟩
    · exact .inr (Nat.le_refl _)
    · exact .inl ⟨s, h1⟩
  · exact hs.keep (fun k ⟨i, h⟩ => hk k (h.lt hs)) (fun g o v e => hk g (hmlt g o v e))
  · simp only [putA, Act.put]
    refine ⟨by simp [hf.size], fun s sl h => ?_, fun s g h => ?_, fun s t g h1 h2 => ?_, fun s g h => ?_⟩
    · by_cases e1 : s = d
      · subst e1
        rw [List.getElem?_set_self hlt] at h; cases h
        have hl : s < a.tmps.size := by rw [hf.size]; exact hlt
        have he : ∀ v : Value, (a.tmps.setIfInBounds s v).getD s undef = v := fun v => by simp [Array.getD_eq_getD_getElem?, hl]
        exact ⟨w.heap.size, cur, e, by simp [π'], he _, (by show (w.heap.push _)[w.heap.size]? = _; simp), hc⟩
      · rw [List.getElem?_set_ne (Ne.symm e1)] at h
        have he : ∀ v : Value, (a.tmps.setIfInBounds d v).getD s undef = a.tmps.getD s undef := fun v => by simp [Array.getD_eq_getD_getElem?, Array.getElem?_setIfInBounds, Ne.symm e1]
        rw [he]
        have h0 := hf.slot s sl h
        cases sl with
        | val v => exact h0
        | plc t off =>
          obtain ⟨g, h1, h2⟩ := h0
          have : t ≠ d := fun e => by rw [e, hnd] at h1; cases h1
          exact ⟨g, by simp [π', this, h1], h2⟩
        | var cs1 =>
          obtain ⟨g, cur1, e2, h1, h2, h3, h4⟩ := h0
          exact ⟨g, cur1, e2, by simp [π', e1, h1], h2, (hk g (hf.lt h1)).trans h3, h4⟩
        | und => exact h0
        | top => exact h0
    · rcases hπ s g h with ⟨rfl, _⟩ | ⟨h0, h1⟩
      · exact ⟨cs, List.getElem?_set_self hlt⟩
      · obtain ⟨cs1, h2⟩ := hf.dom s g h1
        exact ⟨cs1, by rw [List.getElem?_set_ne (Ne.symm h0)]; exact h2⟩
    · rcases hπ s g h1 with ⟨rfl, rfl⟩ | ⟨h3, h4⟩ <;> rcases hπ t _ h2 with ⟨rfl, h5⟩ | ⟨h5, h6⟩
      · rfl
      · have := hf.lt h6; omega
      · subst h5; have := hf.lt h4; omega
      · exact hf.inj s t g h4 h6
    · rcases hπ s g h with ⟨_, rfl⟩ | ⟨_, h1⟩
      · refine ⟨fun o => ?_, fun ⟨i, h2⟩ => ?_⟩
        · cases e2 : M w.heap.size o with
          | none => rfl
          | some v => have := hmlt _ _ _ e2; omega
        · have := h2.lt hs; omega
      · exact hf.out s g h1

theorem op_store_plc {t : TypeId} {x y : Operand} {s off : Nat} {v : AV} {cs cs' : List AV} (hs : StR w M θ σ) (hf : FrR w M θ σ π env a.tmps) (hd : okDst env o.dst = true) (ho : o.op = .store t x y)
    (hx : look env x = .plc s off) (hy : lookV env y = some v) (ht : szOf P t = some v.cells.length) (hv : env[s]? = some (.var cs)) (hsp : splice cs off v.cells = some cs') :
    OpS P w M θ σ π o a (env.set s (.var cs')) σ .und := by
  have h0 := (look_sound hf x).1
  rw [hx] at h0
  obtain ⟨g, hg, hxv⟩ := h0
  have hr := (lookV_sound hf hy).cells
  obtain ⟨g', cur, e, h1, h2, h3, h4⟩ := hf.slot s _ hv
  rw [hg] at h1; cases h1
  obtain ⟨hle, _, _⟩ := splice_spec hsp
  have hst := storeVar_run (P := P) (M := M) (θ := θ) (t := t) (o1 := off) h3 hr ht (by rw [h4.1]; exact hle)
  obtain ⟨q1, q2, q3⟩ := var_set hs hf hv hg (splice_cells hsp h4 hr)
  have hd' : okDst (env.set s (.var cs')) o.dst = true := by
    cases e1 : o.dst with
    | none => rfl
    | some d =>
      rw [e1] at hd
      by_cases e2 : d = s
      · subst e2; simp only [okDst, hv] at hd; cases hd
      · simp only [okDst] at hd ⊢
        rw [List.getElem?_set_ne (Ne.symm e2)]; exact hd
  exact .skip (by simp [execOp, ho, hxv, Instr.storeAt, Instr.sureAddr, hst]) q1 q2 (q3.put o.dst hd' (by simp) (fun _ => rfl))

theorem op_alloc_var {t : TypeId} {d : Tmp} {z : AV} (hs : StR w M θ σ) (hf : FrR w M θ σ π env a.tmps) (hd : okDst env o.dst = true) (hdd : o.dst = some d) (ho : o.op = .alloc t) (hz : zeroOf P t = some z) :
    OpS P w M θ σ π o a env σ (.var z.cells) := by
  unfold zeroOf at hz
  cases hi : P.info? t with
  | none => rw [hi] at hz; cases hz
  | some i =>
    rw [hi] at hz
    cases hi2 : i.zero with
    | none => simp [hi2] at hz
    | some zv =>
      have hz' : ofV zv = some z := by simpa [hi2] using hz
      have hc := (ofV_sound hz' M θ).cells
      rw [hdd] at hd
      obtain ⟨π', q1, q2, q3⟩ := var_new (e := t) hs hf hd hc
      rw [← hdd] at q3
      exact .val (u := .pointer (some ⟨w.heap.size, 0, none⟩)) (by simp [execOp, ho, Instr.alloc, zeroValue, typeInfo, hi, hi2, newVar, newRow]) q1 q2 q3

theorem op_box_var {t : TypeId} {d : Tmp} {x : Operand} {z : AV} (hs : StR w M θ σ) (hf : FrR w M θ σ π env a.tmps) (hd : okDst env o.dst = true) (hdd : o.dst = some d) (ho : o.op = .box t x) (hz : lookV env x = some z) :
    OpS P w M θ σ π o a env σ (.var z.cells) := by
  have hc := (lookV_sound hf hz).cells
  rw [hdd] at hd
  obtain ⟨π', q1, q2, q3⟩ := var_new (e := t) hs hf hd hc
  rw [← hdd] at q3
  exact .val (u := .pointer (some ⟨w.heap.size, 0, none⟩)) (by simp [execOp, ho, Instr.box, newVar, newRow]) q1 q2 q3

end
end Go.Can

namespace Go.Can
open Go Go.RowKit
section
variable {P : Program} {w : World} {M : Mem} {θ : Th} {σ : St} {π : Nat → Option Nat} {env : Env} {o : Oper} {a : Act}

theorem heap_new (w : World) (x : Obj) : (w.alloc x).heap[w.heap.size]? = some x := by show (w.heap.push _)[w.heap.size]? = _; simp

theorem set_ext {w' : World} {θ' : Th} {id : Nat} {x x' : Ob} (h : StR w M θ σ) (hx : σ[id]? = some x) (ht : θ.le θ')
    (hθ : ∀ j, j ≠ id → (∀ gen, θ'.tr j gen = θ.tr j gen) ∧ θ'.tc j = θ.tc j)
    (hw : ∀ k, k < w.heap.size → ¬ OwnAt θ σ id k → w'.heap[k]? = w.heap[k]?)
    (hown : ∀ g, OwnAt θ' (σ.set id x') id g → OwnAt θ σ id g ∨ w.heap.size ≤ g) (hob : ObR w' M θ' id x')
    (h1 : w'.os = w.os) (h2 : w'.tape = w.tape) (h3 : w'.output = w.output) (h4 : w.heap.size ≤ w'.heap.size) : Ext0 w M θ σ w' M θ' (σ.set id x') ∧ StR w' M θ' (σ.set id x') := by
  obtain ⟨q1, q2⟩ := h.set hx ht hθ hw hown hob
  exact ⟨⟨h1, h2, h3, h4, M.le_refl, ht, fun g hg ho _ => hw g hg (fun h5 => ho ⟨id, h5⟩), q2, fun _ _ e => by simp at e, fun _ _ _ e => .inl e⟩, q1⟩

def Th.setC (θ : Th) (id g : Nat) : Th := { θ with tc := fun j => if j = id then some g else θ.tc j }
def Th.setR (θ : Th) (id gen : Nat) (x : Option Nat × Nat × Nat) : Th := { θ with tr := fun j q => if j = id ∧ q = gen then some x else θ.tr j q }

theorem Th.le_setC {id g : Nat} (h : θ.tc id = none) : θ.le (θ.setC id g) :=
  ⟨fun _ _ _ e => e, fun j k e => by simp only [Th.setC]; split <;> simp_all⟩
theorem Th.le_setR {id gen : Nat} {x : Option Nat × Nat × Nat} (h : θ.tr id gen = none) : θ.le (θ.setR id gen x) :=
  ⟨fun j q y e => by
    simp only [Th.setR]
    by_cases h1 : j = id ∧ q = gen
    · rw [h1.1, h1.2] at e; rw [h] at e; cases e
    · rw [if_neg h1]; exact e, fun _ _ e => e⟩
theorem Th.setC_self (id g : Nat) : (θ.setC id g).tc id = some g := by simp [Th.setC]
theorem Th.setR_self (id gen : Nat) (x : Option Nat × Nat × Nat) : (θ.setR id gen x).tr id gen = some x := by simp [Th.setR]
theorem Th.setR_of {id gen q : Nat} {x y : Option Nat × Nat × Nat} (h : (θ.setR id gen x).tr id q = some y) : q = gen ∨ θ.tr id q = some y := by
  simp only [Th.setR] at h
  split at h
  · rename_i e; exact .inl e.2
  · exact .inr h
theorem Th.setC_ne {id g j : Nat} (h : j ≠ id) : (∀ gen, (θ.setC id g).tr j gen = θ.tr j gen) ∧ (θ.setC id g).tc j = θ.tc j := by simp [Th.setC, h]
theorem Th.setR_ne {id gen j : Nat} {x : Option Nat × Nat × Nat} (h : j ≠ id) : (∀ q, (θ.setR id gen x).tr j q = θ.tr j q) ∧ (θ.setR id gen x).tc j = θ.tc j := by simp [Th.setR, h]

theorem ownAt_set {θ : Th} {σ : St} {id g : Nat} {x : Ob} (hlt : id < σ.length) : OwnAt θ (σ.set id x) id g ↔ (match x with
    | .row _ xs => ∃ cap s, θ.tr id xs.length = some (some g, cap, s)
    | .cells _ | .map _ => θ.tc id = some g
    | .none => False) := by
  unfold OwnAt
  rw [List.getElem?_set_self hlt]
  cases x <;> exact Iff.rfl

theorem fresh_spec {nid : Nat} (h : fresh σ nid = true) : σ[nid]? = some .none := by
  unfold fresh at h
  split at h
  · assumption
  · cases h

/-- A new object of cells, of a map. -/
theorem new_cells {nid : Nat} {cs : List AV} {cur : Array Value} {e : TypeId} (hs : StR w M θ σ) (hn : fresh σ nid = true) (hc : CellsR M θ cs cur) :
    Ext0 w M θ σ (w.alloc (.cells cur e)) M (θ.setC nid w.heap.size) (σ.set nid (.cells cs)) ∧ StR (w.alloc (.cells cur e)) M (θ.setC nid w.heap.size) (σ.set nid (.cells cs)) := by
  have hx := fresh_spec hn
  have hlt : nid < σ.length := (List.getElem?_eq_some_iff.1 hx).1
  have h0 := hs.ob _ _ hx
  have hle := Th.le_setC (g := w.heap.size) h0.2
  refine set_ext hs hx hle (fun j hj => Th.setC_ne hj) (fun k hk _ => Below.heap_alloc w _ k hk) (fun g hg => ?_) ?_ rfl rfl rfl (by simp)
  · rw [ownAt_set hlt, Th.setC_self] at hg
    cases hg; exact .inr (Nat.le_refl _)
  · exact ⟨h0.1, w.heap.size, cur, e, Th.setC_self _ _, heap_new w _, hc.mono M.le_refl hle⟩

theorem new_map {nid : Nat} (hs : StR w M θ σ) (hn : fresh σ nid = true) :
    Ext0 w M θ σ (w.alloc (.map #[] 0)) M (θ.setC nid w.heap.size) (σ.set nid (.map [])) ∧ StR (w.alloc (.map #[] 0)) M (θ.setC nid w.heap.size) (σ.set nid (.map [])) := by
  have hx := fresh_spec hn
  have hlt : nid < σ.length := (List.getElem?_eq_some_iff.1 hx).1
  have h0 := hs.ob _ _ hx
  have hle := Th.le_setC (g := w.heap.size) h0.2
  refine set_ext hs hx hle (fun j hj => Th.setC_ne hj) (fun k hk _ => Below.heap_alloc w _ k hk) (fun g hg => ?_) ?_ rfl rfl rfl (by simp)
  · rw [ownAt_set hlt, Th.setC_self] at hg
    cases hg; exact .inr (Nat.le_refl _)
  · exact ⟨h0.1, w.heap.size, #[], 0, Th.setC_self _ _, heap_new w _, ⟨rfl, by simp⟩, ⟨by simp, by simp⟩⟩

theorem op_alloc_heap {t : TypeId} {nid : Nat} {z : AV} (hs : StR w M θ σ) (hf : FrR w M θ σ π env a.tmps) (hd : okDst env o.dst = true) (ho : o.op = .alloc t) (hz : zeroOf P t = some z) (hn : fresh σ nid = true) :
    OpS P w M θ σ π o a env (σ.set nid (.cells z.cells)) (.val (.ptr nid 0)) := by
  unfold zeroOf at hz
  cases hi : P.info? t with
  | none => rw [hi] at hz; cases hz
  | some i =>
    rw [hi] at hz
    cases hi2 : i.zero with
    | none => simp [hi2] at hz
    | some zv =>
      have hz' : ofV zv = some z := by simpa [hi2] using hz
      have hc := (ofV_sound hz' M θ).cells
      obtain ⟨q1, q2⟩ := new_cells (e := t) hs hn hc
      exact .goV (u := .pointer (some ⟨w.heap.size, 0, none⟩)) hf hd (by simp [execOp, ho, Instr.alloc, zeroValue, typeInfo, hi, hi2, newVar, newRow]) q1 q2 (Cell.ptr nid 0 _ (Th.setC_self _ _)).rep

theorem op_box_heap {t : TypeId} {nid : Nat} {x : Operand} {z : AV} (hs : StR w M θ σ) (hf : FrR w M θ σ π env a.tmps) (hd : okDst env o.dst = true) (ho : o.op = .box t x) (hz : lookV env x = some z) (hn : fresh σ nid = true) :
    OpS P w M θ σ π o a env (σ.set nid (.cells z.cells)) (.val (.ptr nid 0)) := by
  have hc := (lookV_sound hf hz).cells
  obtain ⟨q1, q2⟩ := new_cells (e := t) hs hn hc
  exact .goV (u := .pointer (some ⟨w.heap.size, 0, none⟩)) hf hd (by simp [execOp, ho, Instr.box, newVar, newRow]) q1 q2 (Cell.ptr nid 0 _ (Th.setC_self _ _)).rep

theorem lowMapOk_spec {t k e : TypeId} (h : lowMapOk P t = some (k, e)) : P.underlying t = some (.map k e) := by
  unfold lowMapOk at h
  split at h
  · rename_i h1; cases h; exact h1
  · cases h

theorem op_makeMap {t : TypeId} {nid : Nat} {r : Option Operand} {x : TypeId × TypeId} (hs : StR w M θ σ) (hf : FrR w M θ σ π env a.tmps) (hd : okDst env o.dst = true) (ho : o.op = .makeMap t r) (ht : lowMapOk P t = some x)
    (hr : r = none ∨ ∃ y k n, r = some y ∧ lookV env y = some (.int k n)) (hn : fresh σ nid = true) : OpS P w M θ σ π o a env (σ.set nid (.map [])) (.val (.map (some nid))) := by
  obtain ⟨q1, q2⟩ := new_map hs hn
  have h1 := lowMapOk_spec (k := x.1) (e := x.2) ht
  refine .goV (u := .map (some w.heap.size)) hf hd ?_ q1 q2 (Cell.mapS nid _ (Th.setC_self _ _)).rep
  rcases hr with rfl | ⟨y, k, n, rfl, hy⟩
  · simp [execOp, ho, Instr.makeMap]
  · have h2 := (lookV_sound hf hy).rep.int
    simp [execOp, ho, Instr.makeMap, h2, run_underlying h1, asInt, asIntOf]

/-- A row of 'n' zero values in a new block. -/
theorem op_makeSlice {t e : TypeId} {sz bytes nid : Nat} {l c : Operand} {n m : Int} {z : AV} (hs : StR w M θ σ) (hf : FrR w M θ σ π env a.tmps) (hd : okDst env o.dst = true) (ho : o.op = .makeSlice t l c)
    (ht : elemT P t = some (e, sz, bytes)) (hl : lookV env l = some (.int .i64 n)) (hc : lookV env c = some (.int .i64 m)) (hz : zeroOf P e = some z)
    (h0 : 0 ≤ n) (h1 : n ≤ m) (h2 : m * bytes ≤ 140737488355328) (h3 : m ≤ 140737488355328) (h4 : 0 < sz) (h5 : z.cells.length = sz) (hn : fresh σ nid = true) :
    OpS P w M θ σ π o a env (σ.set nid (.row sz (List.replicate n.toNat z))) (.val (.row sz nid n.toNat 0 n.toNat false)) := by
  obtain ⟨hu, i, hi, hi1, hi2⟩ := elemT_spec ht
  unfold zeroOf at hz
  rw [hi] at hz
  cases hi3 : i.zero with
  | none => simp [hi3] at hz
  | some zv =>
    have hz' : ofV zv = some z := by simpa [hi3] using hz
    have hcz := (ofV_sound hz' M θ).cells
    have hzs : zv.cells.size = sz := by rw [hcz.1, h5]
    have hx := fresh_spec hn
    have hlt : nid < σ.length := (List.getElem?_eq_some_iff.1 hx).1
    have hob := hs.ob _ _ hx
    have hle := Th.le_setR (x := (some w.heap.size, m.toNat, sz)) (hob.1 n.toNat)
    have hrun := run_make (P := P) w t e i zv hu hi hi3 .i64 .i64 n m h0 h1 (by rw [hi2, Int.mul_comm]; omega) (by omega)
    have e1 := (lookV_sound hf hl).rep.int
    have e2 := (lookV_sound hf hc).rep.int
    have key : Ext0 w M θ σ (w.alloc (.cells (madeCells zv.cells (m.toNat * i.size)) e)) M (θ.setR nid n.toNat (some w.heap.size, m.toNat, sz)) (σ.set nid (.row sz (List.replicate n.toNat z))) ∧
        StR (w.alloc (.cells (madeCells zv.cells (m.toNat * i.size)) e)) M (θ.setR nid n.toNat (some w.heap.size, m.toNat, sz)) (σ.set nid (.row sz (List.replicate n.toNat z))) := by
      refine set_ext hs hx hle (fun j hj => Th.setR_ne hj) (fun k hk _ => Below.heap_alloc w _ k hk) (fun g hg => ?_) ?_ rfl rfl rfl (by simp)
      · rw [ownAt_set hlt] at hg
        obtain ⟨cap, s, hg⟩ := hg
        simp only [List.length_replicate, Th.setR_self, Option.some.injEq, Prod.mk.injEq] at hg
        rw [← hg.1]; exact .inr (Nat.le_refl _)
      · refine ⟨hob.2, fun gen y hy => ?_, h4, fun y hy => ?_, some w.heap.size, m.toNat, ?_, ?_, ?_, madeCells zv.cells (m.toNat * i.size), e, heap_new w _, ?_, ?_⟩
        · rcases Th.setR_of hy with h | h
          · simp [h]
          · rw [hob.1] at h; cases h
        · obtain ⟨_, rfl⟩ := List.mem_replicate.1 hy; exact h5
        · simp [Th.setR_self]
        · simp; omega
        · simp only [maxLen]; omega
        · rw [size_madeCells, hi1]
        · intro k y hy j c hj
          have hk : k < n.toNat := by simpa using (List.getElem?_eq_some_iff.1 hy).1
          rw [List.getElem?_replicate, if_pos hk] at hy
          cases hy
          have hj' : j < sz := by rw [← h5]; exact (List.getElem?_eq_some_iff.1 hj).1
          have hb : k * sz + j < m.toNat * i.size := by
            rw [hi1]
            have h6 : k * sz + j < (k + 1) * sz := by rw [Nat.add_mul]; omega
            exact Nat.lt_of_lt_of_le h6 (Nat.mul_le_mul_right _ (by omega))
          have e3 : (madeCells zv.cells (m.toNat * i.size)).getD (k * sz + j) undef = zv.cells.getD j undef := by
            have : (k * sz + j) % sz = j := by rw [Nat.mul_comm, Nat.mul_add_mod]; exact Nat.mod_eq_of_lt hj'
            have hjz : j < zv.cells.size := by omega
            simp only [madeCells, Array.getD_eq_getD_getElem?, Array.getElem?_map]
            rw [Array.getElem?_range, if_pos hb]
            simp only [Option.map_some, Option.getD_some, hzs, this]
            rw [getElem!_pos zv.cells j hjz]
            simp [hjz]
          rw [e3]
          exact (hcz.2 j c hj).mono M.le_refl hle
    refine .goV (u := .slice (some ⟨w.heap.size, 0, none⟩) n.toNat m.toNat) hf hd (by simp only [execOp, ho, e1, e2]; rw [Sem.run_bind, hrun]; rfl) key.1 key.2 ?_
    refine (Cell.row sz nid n.toNat 0 n.toNat false _ m.toNat m.toNat (some w.heap.size) (Th.setR_self _ _ _) (by omega) (by omega) (by simp only [maxLen]; omega) (by simp) (by simp) (.inr ⟨_, rfl, ?_⟩)).rep
    simp

/-! Stores into objects. -/

theorem op_store_ptr {t : TypeId} {x y : Operand} {id off : Nat} {v : AV} {cs cs' : List AV} (hs : StR w M θ σ) (hf : FrR w M θ σ π env a.tmps) (hd : okDst env o.dst = true) (ho : o.op = .store t x y)
    (hx : look env x = .val (.ptr id off)) (hy : lookV env y = some v) (ht : szOf P t = some v.cells.length) (hv : σ[id]? = some (.cells cs)) (hsp : splice cs off v.cells = some cs') :
    OpS P w M θ σ π o a env (σ.set id (.cells cs')) .und := by
  have h0 := (look_sound hf x).1
  rw [hx] at h0
  obtain ⟨g, hg, hxv⟩ := Rep.ptr h0
  have hr := (lookV_sound hf hy).cells
  have hlt : id < σ.length := (List.getElem?_eq_some_iff.1 hv).1
  obtain ⟨h1, g', cur, e, h2, h3, h4⟩ := hs.ob _ _ hv
  rw [hg] at h2; cases h2
  obtain ⟨hle, _, _⟩ := splice_spec hsp
  have hst := storeVar_run (P := P) (M := M) (θ := θ) (t := t) (o1 := off) h3 hr ht (by rw [h4.1]; exact hle)
  obtain ⟨q1, q2⟩ := set_ext (w' := w.setRow g (cur.toList.take off ++ (a.eval y).cells.toList ++ cur.toList.drop (off + (a.eval y).cells.toList.length)).toArray) (x' := .cells cs') hs hv θ.le_refl (fun j _ => ⟨fun _ => rfl, rfl⟩)
    (fun k _ hk => setRow_other w g k _ (fun e => hk (by unfold OwnAt; rw [hv, e]; exact hg))) (fun k hk => .inl (by rw [ownAt_set hlt] at hk; unfold OwnAt; rw [hv]; exact hk))
    ⟨h1, g, _, e, hg, setRow_heap w g cur _ e _ h3, splice_cells hsp h4 hr⟩ rfl rfl rfl (by simp)
  exact .goU hf hd (by simp [execOp, ho, hxv, Instr.storeAt, Instr.sureAddr, hst]) q1 q2

theorem setCells_spec {x x' : AV} {off : Nat} {vs : List AV} {us : Array Value} (h : setCells x off vs = some x') (hu : CellsR M θ vs us) : splice x.cells off vs = some x'.cells := by
  unfold setCells at h
  split at h
  · rename_i cs
    cases e : splice cs off vs with
    | none => rw [e] at h; cases h
    | some cs' => rw [e] at h; cases h; exact e
  · rename_i hx
    split at h
    · rename_i v
      cases h
      have h1 := hu.2 0 x' rfl
      have e1 : x.cells = [x] := by cases x <;> first | rfl | exact absurd rfl (hx _)
      have e2 : x'.cells = [x'] := by cases x' <;> first | rfl | exact h1.not_agg.elim
      rw [e1, e2]; rfl
    · cases h

theorem row_set {sz k off : Nat} {xs : List AV} {x x' : AV} {vs : List AV} {cur us : Array Value} {cap : Nat} (hr : RowR M θ sz xs cur) (hz : ∀ y ∈ xs, y.cells.length = sz) (hx : xs[k]? = some x)
    (hsp : splice x.cells off vs = some x'.cells) (hu : CellsR M θ vs us) (hcs : cur.size = cap * sz) (hlc : xs.length ≤ cap) :
    RowR M θ sz (xs.set k x') (cur.toList.take (k * sz + off) ++ us.toList ++ cur.toList.drop (k * sz + off + us.toList.length)).toArray ∧ k * sz + off + vs.length ≤ cur.size ∧ ∀ y ∈ xs.set k x', y.cells.length = sz := by
  have hk : k < xs.length := (List.getElem?_eq_some_iff.1 hx).1
  obtain ⟨h1, h2, h3⟩ := splice_spec hsp
  have hxz := hz x (List.mem_of_getElem? hx)
  have hb : k * sz + off + vs.length ≤ cur.size := by
    rw [hcs]
    have h6 : k * sz + off + vs.length ≤ (k + 1) * sz := by rw [Nat.add_mul]; omega
    exact Nat.le_trans h6 (Nat.mul_le_mul_right _ (by omega))
  refine ⟨fun i y hy j c hj => ?_, hb, fun y hy => ?_⟩
  · have hul : us.toList.length = vs.length := by simpa using hu.1
    have e : ((cur.toList.take (k * sz + off) ++ us.toList ++ cur.toList.drop (k * sz + off + us.toList.length)).toArray).getD (i * sz + j) undef =
        if i * sz + j < k * sz + off then cur.getD (i * sz + j) undef else if i * sz + j < k * sz + off + vs.length then us.getD (i * sz + j - (k * sz + off)) undef else cur.getD (i * sz + j) undef := by
      simp only [Array.getD_eq_getD_getElem?, List.getElem?_toArray]
      rw [getElem?_splice (by rw [hul, Array.length_toList]; exact hb), hul]
      split
      · simp
      · split <;> simp
    rw [e]
    by_cases hik : i = k
    · subst hik
      rw [List.getElem?_set_self hk] at hy; cases hy
      rw [h2, getElem?_splice h1] at hj
      split at hj
      · rw [if_pos (by omega)]; exact hr i x hx j c hj
      · split at hj
        · rw [if_neg (by omega), if_pos (by omega)]
          have : i * sz + j - (i * sz + off) = j - off := by omega
          rw [this]; exact hu.2 _ c hj
        · rw [if_neg (by omega), if_neg (by omega)]; exact hr i x hx j c hj
    · rw [List.getElem?_set_ne (Ne.symm hik)] at hy
      have hj' : j < sz := by rw [← hz y (List.mem_of_getElem? hy)]; exact (List.getElem?_eq_some_iff.1 hj).1
      have hd : i * sz + j < k * sz ∨ (k + 1) * sz ≤ i * sz + j := by
        rcases Nat.lt_or_gt_of_ne hik with h | h
        · left
          have : (i + 1) * sz ≤ k * sz := Nat.mul_le_mul_right _ h
          rw [Nat.add_mul] at this; omega
        · right
          exact Nat.le_trans (Nat.mul_le_mul_right _ h) (by omega)
      have hs' : (k + 1) * sz = k * sz + sz := by rw [Nat.add_mul]; omega
      rw [show (if i * sz + j < k * sz + off then cur.getD (i * sz + j) undef else if i * sz + j < k * sz + off + vs.length then us.getD (i * sz + j - (k * sz + off)) undef else cur.getD (i * sz + j) undef) = cur.getD (i * sz + j) undef by
        split
        · rfl
        · rw [if_neg (by omega)]]
      exact hr i y hy j c hj
  · rcases List.mem_or_eq_of_mem_set hy with h | h
    · exact hz y h
    · rw [h, h3]; exact hxz

theorem op_store_elm {t : TypeId} {x y : Operand} {sz id gen ro len i off : Nat} {lim : Bool} {v : AV} {s2 : Nat} {xs : List AV} {z z' : AV} (hs : StR w M θ σ) (hf : FrR w M θ σ π env a.tmps) (hd : okDst env o.dst = true) (ho : o.op = .store t x y)
    (hx : look env x = .val (.elm (.row sz id gen ro len lim) sz i off)) (hy : lookV env y = some v) (ht : szOf P t = some v.cells.length) (hv : σ[id]? = some (.row s2 xs)) (hgen : gen = xs.length) (hi : i < len)
    (hz : xs[ro + i]? = some z) (hsp : setCells z off v.cells = some z') : OpS P w M θ σ π o a env (σ.set id (.row sz (xs.set (ro + i) z'))) .und := by
  have h0 := (look_sound hf x).1
  rw [hx] at h0
  have hr := (lookV_sound hf hy).cells
  have hlt : id < σ.length := (List.getElem?_eq_some_iff.1 hv).1
  generalize hev : a.eval x = u at h0
  cases h0 with
  | elm _ _ _ _ g o1 len' cap' hc hi' =>
    generalize hsv : Value.slice (some ⟨g, o1, none⟩) len' cap' = sv at hc
    cases hc with
    | row _ _ _ _ _ _ a0 cap0 cap1 b0 htr h1 hg hm hb hcap ha =>
      cases hsv
      subst hgen
      obtain ⟨k1, k2, k3, k4, b, cap, k5, k6, k7, k8⟩ := hs.ob _ _ hv
      rw [k5] at htr
      simp only [Option.some.injEq, Prod.mk.injEq] at htr
      obtain ⟨rfl, rfl, rfl⟩ := htr
      rcases ha with ha | ⟨g', hb', ha⟩
      · subst hcap
        split at ha <;> omega
      · subst hb'
        cases ha
        obtain ⟨cur, e, k9, k10, k11⟩ := k8
        obtain ⟨m1, m2, m3⟩ := row_set k11 k4 hz (setCells_spec hsp hr) hr k10 k6
        have e1 : ro * s2 + (i * s2 + off) = (ro + i) * s2 + off := by rw [Nat.add_mul]; omega
        have hst := storeVar_run (P := P) (M := M) (θ := θ) (t := t) (o1 := (ro + i) * s2 + off) k9 hr ht m2
        obtain ⟨q1, q2⟩ := set_ext (w' := w.setRow g (cur.toList.take ((ro + i) * s2 + off) ++ (a.eval y).cells.toList ++ cur.toList.drop ((ro + i) * s2 + off + (a.eval y).cells.toList.length)).toArray)
          (x' := .row s2 (xs.set (ro + i) z')) hs hv θ.le_refl (fun j _ => ⟨fun _ => rfl, rfl⟩)
          (fun k _ hk => setRow_other w g k _ (fun e => hk (by unfold OwnAt; rw [hv, e]; exact ⟨_, _, k5⟩))) (fun k hk => .inl (by rw [ownAt_set hlt] at hk; unfold OwnAt; rw [hv]; simpa using hk))
          ⟨k1, by simpa using k2, k3, m3, some g, cap, by simpa using k5, by simpa using k6, k7, _, e, setRow_heap w g cur _ e _ k9, by
            have hul : (a.eval y).cells.toList.length = v.cells.length := by simpa using hr.1
            simp only [List.size_toArray, List.length_append, List.length_take, List.length_drop, Array.length_toList, hul] at m2 ⊢
            omega, m1⟩ rfl rfl rfl (by simp)
        exact .goU hf hd (by simp [execOp, ho, hev, Instr.storeAt, Instr.sureAddr, e1, hst]) q1 q2

end
end Go.Can

namespace Go.Can
open Go Go.RowKit
section
variable {P : Program} {w : World} {M : Mem} {θ : Th} {σ : St} {π : Nat → Option Nat} {env : Env} {o : Oper} {a : Act}

theorem getObj_map {r : Nat} {us : Array MapEntry} {cl : Nat} (h : w.heap[r]? = some (.map us cl)) : (getObj r).run P w = .ok (.map us cl) w := by simp [getObj, Sem.run, h]
theorem setObj_map {r : Nat} {us : Array MapEntry} {cl : Nat} (x : Obj) (h : w.heap[r]? = some (.map us cl)) : (setObj r x).run P w = .ok () { w with heap := w.heap.setIfInBounds r x } := by simp [setObj, Sem.run, h]

def EntL (M : Mem) (θ : Th) (es : List (AV × AV)) (us : List MapEntry) : Prop :=
  us.length = es.length ∧ ∀ (i : Nat) (k v : AV), es[i]? = some (k, v) → ∃ e : MapEntry, us[i]? = some e ∧ RepA M θ k e.key ∧ RepA M θ v e.val

theorem EntR.toL {es : List (AV × AV)} {us : Array MapEntry} (h : EntR M θ es us) : EntL M θ es us.toList :=
  ⟨by simpa using h.1, fun i k v hk => by obtain ⟨e, h1, h2⟩ := h.2 i k v hk; exact ⟨e, by simpa using h1, h2⟩⟩

theorem EntL.cons {k v : AV} {es : List (AV × AV)} {us : List MapEntry} (h : EntL M θ ((k, v) :: es) us) : ∃ e us', us = e :: us' ∧ RepA M θ k e.key ∧ RepA M θ v e.val ∧ EntL M θ es us' := by
  cases us with
  | nil => have := h.1; simp at this
  | cons e us' =>
    obtain ⟨e', h1, h2, h3⟩ := h.2 0 k v rfl
    simp at h1; subst h1
    exact ⟨e, us', rfl, h2, h3, by have := h.1; simpa using this, fun i k' v' hk => by simpa using h.2 (i + 1) k' v' (by simpa using hk)⟩

/-- What is found in a map: nothing, or an entry's place and value. -/
def FoundR (M : Mem) (θ : Th) : Option (Nat × AV) → Option (Nat × Value) → Prop
  | none, r' => r' = none
  | some (j, v), r' => ∃ z, r' = some (j, z) ∧ RepA M θ v z

theorem findAsking_run {kt : TypeId} {k : AV} {u : Value} (hk : keyOk P kt k = true) (hu : RepA M θ k u) : ∀ {es : List (AV × AV)} {us : List MapEntry} {i : Nat} {r : Option (Nat × AV)}, EntL M θ es us → findE k es i = some r →
    ∃ r', (Instr.findAsking kt u us i).run P w = .ok r' w ∧ FoundR M θ r r'
  | [], us, i, r, he, h => by
    have : us = [] := List.eq_nil_of_length_eq_zero (by simpa using he.1)
    subst this
    simp only [findE] at h; cases h
    exact ⟨none, by simp [Instr.findAsking], rfl⟩
  | (k', v) :: es, us, i, r, he, h => by
    obtain ⟨e, us', rfl, h1, h2, h3⟩ := he.cons
    simp only [findE] at h
    split at h
    · rename_i hq; cases h
      have := keyEq_run (P := P) (w := w) (d := 9998) hq hu h1 hk
      exact ⟨some (i, e.val), by simp only [Instr.findAsking, Op.equal, Op.maxDepth, Sem.run_bind, this, Result.andThen_ok, if_true, Sem.run_pure], e.val, rfl, h2⟩
    · rename_i hq
      have := keyEq_run (P := P) (w := w) (d := 9998) hq hu h1 hk
      obtain ⟨r', h4, h5⟩ := findAsking_run hk hu h3 h
      exact ⟨r', by simp only [Instr.findAsking, Op.equal, Op.maxDepth, Sem.run_bind, this, Result.andThen_ok, Bool.false_eq_true, if_false, h4], h5⟩
    · cases h

theorem sameNow_keyEq {d : TypeDesc} {k k' : AV} {u u' : Value} {b b' : Bool} (hu : RepA M θ k u) (hu' : RepA M θ k' u') (h : Instr.sameNow d u u' = some b) (hq : keyEq k k' = some b') : b = b' := by
  unfold keyEq at hq
  split at hq
  · obtain ⟨us, rfl, _⟩ := hu
    obtain ⟨vs, rfl, _⟩ := hu'
    unfold Instr.sameNow at h
    split at h <;> simp_all
  · have a1 : ∀ cs, k ≠ .agg cs := fun cs e => by subst e; simp [cellEq] at hq
    have a2 : ∀ cs, k' ≠ .agg cs := fun cs e => by subst e; unfold cellEq at hq; split at hq <;> simp_all
    have c1 := hu.cell a1
    have c2 := hu'.cell a2
    unfold cellEq at hq
    split at hq
    · cases c1; cases c2
      unfold Instr.sameNow at h
      split at h <;> simp_all
    · cases c1; cases c2
      unfold Instr.sameNow at h
      split at h <;> simp_all
    · cases c1; cases c2
      unfold Instr.sameNow at h
      split at h <;> simp_all [beq_toListBytes]
    · cases hq

theorem findNow_same {d : TypeDesc} {k : AV} {u : Value} (hu : RepA M θ k u) : ∀ {es : List (AV × AV)} {us : List MapEntry} {i : Nat} {r : Option (Nat × AV)} {r' : Option (Nat × Value)}, EntL M θ es us → findE k es i = some r →
    Instr.findNow d u us i = some r' → FoundR M θ r r'
  | [], us, i, r, r', he, h, h' => by
    have : us = [] := List.eq_nil_of_length_eq_zero (by simpa using he.1)
    subst this
    simp only [findE] at h; cases h
    simp only [Instr.findNow] at h'; cases h'
    rfl
  | (k', v) :: es, us, i, r, r', he, h, h' => by
    obtain ⟨e, us', rfl, h1, h2, h3⟩ := he.cons
    simp only [findE] at h
    simp only [Instr.findNow] at h'
    split at h
    · rename_i hq; cases h
      split at h'
      · cases h'; exact ⟨e.val, rfl, h2⟩
      · rename_i hn; have := sameNow_keyEq hu h1 hn hq; cases this
      · cases h'
    · rename_i hq
      split at h'
      · rename_i hn; have := sameNow_keyEq hu h1 hn hq; cases this
      · exact findNow_same hu h3 h h'
      · cases h'
    · cases h

theorem cellOk_under {t : TypeId} {k : AV} (h : cellOk P t k = true) : ∃ d, P.underlying t = some d ∧ (d = .bool ∨ (∃ q, d = .int q) ∨ d = .string) := by
  unfold cellOk at h
  split at h
  · split at h
    · rename_i e; exact ⟨_, e, .inl rfl⟩
    · cases h
  · split at h
    · rename_i q e; exact ⟨_, e, .inr (.inl ⟨q, rfl⟩)⟩
    · cases h
  · split at h
    · rename_i e; exact ⟨_, e, .inr (.inr rfl)⟩
    · cases h
  · cases h

theorem keyOk_under {t : TypeId} {k : AV} (h : keyOk P t k = true) : ∃ d, P.underlying t = some d := by
  unfold keyOk at h
  split at h
  · split at h
    · rename_i fs e; exact ⟨_, e⟩
    · cases h
  · obtain ⟨d, e, _⟩ := cellOk_under h; exact ⟨d, e⟩

theorem findKey_run {kt : TypeId} {k : AV} {u : Value} (hk : keyOk P kt k = true) (hu : RepA M θ k u) {es : List (AV × AV)} {us : List MapEntry} {r : Option (Nat × AV)} (he : EntL M θ es us) (h : findE k es 0 = some r) :
    ∃ r', (Instr.findKey kt u us).run P w = .ok r' w ∧ FoundR M θ r r' := by
  obtain ⟨d, hd⟩ := keyOk_under hk
  simp only [Instr.findKey, Sem.run_bind, run_underlying hd, Result.andThen_ok]
  cases e : Instr.findNow d u us 0 with
  | none =>
    simp only
    exact findAsking_run hk hu he h
  | some r' => exact ⟨r', rfl, findNow_same hu he h e⟩

theorem checkKey_basic {em : Bool} {n : Nat} {t : TypeId} {u : Value} (h : basicT P t = true) : (Instr.checkKey em (n + 1) t u).run P w = .ok () w := by
  unfold basicT at h
  split at h
  · rename_i e; simp [Instr.checkKey, run_underlying e]
  · rename_i q e; simp [Instr.checkKey, run_underlying e]
  · rename_i e; simp [Instr.checkKey, run_underlying e]
  · cases h

theorem checkFs_run (em : Bool) (n : Nat) {cs : List AV} {us : Array Value} (hu : CellsR M θ cs us) : ∀ (fs : List Field) (i : Nat), flatFs P fs i = true → cellsOk P fs (cs.drop i) = true →
    (forIn fs PUnit.unit (fun f _ => (if f.name ≠ "_" then (do
        let x ← Go.part f.type us f.offset
        Instr.checkKey em (n + 1) f.type x
        pure (ForInStep.yield PUnit.unit)) else pure (ForInStep.yield PUnit.unit) : Sem (ForInStep PUnit)))).run P w = .ok PUnit.unit w
  | [], i, _, _ => by simp
  | f :: fs, i, h1, h2 => by
    simp only [flatFs, Bool.and_eq_true, bne_iff_ne, beq_iff_eq] at h1
    obtain ⟨⟨⟨⟨hb, ho⟩, hn⟩, _⟩, h1⟩ := h1
    cases e : cs.drop i with
    | nil => rw [e] at h2; simp [cellsOk] at h2
    | cons c cs' =>
      have d1 : cs.drop (i + 1) = cs' := by rw [← List.drop_drop, e]; rfl
      have g1 : cs[i]? = some c := by rw [← List.head?_drop, e]; rfl
      have l1 : i < us.size := by rw [hu.1]; exact (List.getElem?_eq_some_iff.1 g1).1
      rw [e] at h2; simp only [cellsOk, Bool.and_eq_true] at h2
      have p1 : (Go.part f.type us f.offset).run P w = .ok (us.getD i undef) w := by
        have q : us[i]? = some (us.getD i undef) := by simp [Array.getD_eq_getD_getElem?, l1]
        simp only [Go.part, Sem.run_bind, basicT_agg hb, Result.andThen_ok, ho, q]; simp
      have ih := checkFs_run em n hu fs (i + 1) h1 (by rw [d1]; exact h2.2)
      simp only [List.forIn_cons]
      rw [if_pos hn]
      simp only [bind_assoc, Sem.run_bind, p1, Result.andThen_ok, checkKey_basic hb, Sem.run_pure]
      exact ih

theorem checkKey_run {em : Bool} {kt : TypeId} {k : AV} {u : Value} (hk : keyOk P kt k = true) (hu : RepA M θ k u) : (Instr.checkKey em 10000 kt u).run P w = .ok () w := by
  unfold keyOk at hk
  split at hk
  · rename_i cs
    obtain ⟨us, rfl, h1⟩ := hu
    split at hk
    · rename_i fs hfs
      simp only [Bool.and_eq_true] at hk
      obtain ⟨fs', hfs', f1, _⟩ := flatT_spec hk.1
      rw [hfs] at hfs'; cases hfs'
      have := checkFs_run (P := P) (w := w) em 9998 h1 fs.toList 0 f1 (by simpa using hk.2)
      show (Instr.checkKey em (9999 + 1) kt (.agg us)).run P w = _
      rw [Instr.checkKey]
      simp only [Sem.run_bind, run_underlying hfs, Result.andThen_ok]
      rw [← Array.forIn_toList]
      refine (congrArg (fun r => Result.andThen r _) this).trans ?_
      rfl
    · cases hk
  · obtain ⟨d, hd, h1⟩ := cellOk_under hk
    refine checkKey_basic (n := 9999) ?_
    unfold basicT
    rw [hd]
    rcases h1 with rfl | ⟨q, rfl⟩ | rfl <;> rfl

theorem zeroOf_run {t : TypeId} {z : AV} (h : zeroOf P t = some z) : ∃ u, (zeroValue t).run P w = .ok u w ∧ RepA M θ z u := by
  unfold zeroOf at h
  cases hi : P.info? t with
  | none => rw [hi] at h; cases h
  | some i =>
    rw [hi] at h
    cases hi2 : i.zero with
    | none => simp [hi2] at h
    | some zv =>
      have hz' : ofV zv = some z := by simpa [hi2] using h
      exact ⟨zv, by simp [zeroValue, typeInfo, hi, hi2], ofV_sound hz' M θ⟩

theorem op_lookup {t kt e : TypeId} {x y : Operand} {ok : Bool} {m k : AV} {r : Option AV} {v : AV} (hs : StR w M θ σ) (hf : FrR w M θ σ π env a.tmps) (hd : okDst env o.dst = true) (ho : o.op = .lookup t x y ok)
    (hx : lookV env x = some m) (hy : lookV env y = some k) (hr : mapGet P σ t m k = some r) (ht : lowMapOk P t = some (kt, e)) (hv : orZero r (zeroOf P e) = some v) :
    OpS P w M θ σ π o a env σ (if ok then .val (.tup [v, .bool r.isSome]) else .val v) := by
  have hm := lookV_sound hf hx
  have hk := lookV_sound hf hy
  have hu := lowMapOk_spec ht
  unfold mapGet at hr
  rw [ht] at hr
  simp only at hr
  split at hr
  · rename_i hkok
    have key : ∃ z, (Instr.lookup t (a.eval x) (a.eval y) ok).run P w = .ok (if ok then .tuple #[z, .bool r.isSome] else z) w ∧ RepA M θ v z := by
      split at hr
      · cases hr
        have e1 := hm.rep.mapN
        obtain ⟨z, hz, hz2⟩ := zeroOf_run (P := P) (w := w) (M := M) (θ := θ) hv
        obtain ⟨d, hd'⟩ := keyOk_under hkok
        refine ⟨z, ?_, hz2⟩
        have hc := checkKey_run (P := P) (w := w) (em := true) hkok hk
        simp only [Instr.lookup, e1, Sem.run_bind, run_underlying hu, Result.andThen_ok, Sem.run_pure, Array.isEmpty_empty, hc, Instr.findKey, run_underlying hd', Instr.findNow, hz]
        cases ok <;> simp
      · rename_i id
        split at hr
        · rename_i es hes
          obtain ⟨g, hg, e1⟩ := hm.rep.mapS
          obtain ⟨_, g', us, clock, h1, h2, h3, hbn⟩ := hs.ob _ _ hes
          rw [hg] at h1; cases h1
          cases hfe : findE k es 0 with
          | none => rw [hfe] at hr; cases hr
          | some r0 =>
            rw [hfe] at hr
            simp only [Option.map_some, Option.some.injEq] at hr
            obtain ⟨r', h4, h5⟩ := findKey_run (P := P) (w := w) hkok hk h3.toL hfe
            have hc := checkKey_run (P := P) (w := w) (em := us.isEmpty) hkok hk
            cases r0 with
            | none =>
              subst hr
              subst h5
              obtain ⟨z, hz, hz2⟩ := zeroOf_run (P := P) (w := w) (M := M) (θ := θ) hv
              refine ⟨z, ?_, hz2⟩
              simp only [Instr.lookup, e1, Sem.run_bind, run_underlying hu, Result.andThen_ok, getObj_map h2, Sem.run_pure, hc, h4, hz]
              cases ok <;> simp
            | some jv =>
              subst hr
              obtain ⟨z, rfl, hz2⟩ := h5
              simp only [orZero, Option.map_some, Option.some.injEq] at hv
              subst hv
              refine ⟨z, ?_, hz2⟩
              simp only [Instr.lookup, e1, Sem.run_bind, run_underlying hu, Result.andThen_ok, getObj_map h2, Sem.run_pure, hc, h4]
              cases ok <;> simp
        · cases hr
      · cases hr
    obtain ⟨z, hz, hz2⟩ := key
    cases ok with
    | true =>
      refine .sameV (u := .tuple #[z, .bool r.isSome]) hs hf hd (by simp only [execOp, ho, Sem.run_bind, hz]; rfl) ⟨_, rfl, rfl, fun i c hi => ?_⟩
      match i, hi with
      | 0, hi => cases hi; exact hz2
      | 1, hi => cases hi; exact (Cell.bool _).repA
    | false => exact .sameV (u := z) hs hf hd (by simp only [execOp, ho, Sem.run_bind, hz]; rfl) hz2.rep
  · cases hr

theorem Born.modify {us : Array MapEntry} {cl i : Nat} {f : MapEntry → MapEntry} (h : Born us cl) (hf : ∀ e, (f e).born = e.born) : Born (us.modify i f) cl := by
  have e : (us.modify i f).toList.map (·.born) = us.toList.map (·.born) := by
    apply List.ext_getElem?
    intro j
    simp only [List.getElem?_map, Array.getElem?_toList, Array.getElem?_modify]
    split
    · cases us[j]? <;> simp [hf]
    · rfl
  refine ⟨fun x hx => ?_, by rw [e]; exact h.2⟩
  have hm : x.born ∈ (us.modify i f).toList.map (·.born) := List.mem_map.2 ⟨x, hx, rfl⟩
  rw [e] at hm
  obtain ⟨y, hy, he⟩ := List.mem_map.1 hm
  rw [← he]; exact h.1 y hy

theorem Born.push {us : Array MapEntry} {cl : Nat} {k v : Value} (h : Born us cl) : Born (us.push { key := k, val := v, born := cl }) (cl + 1) := by
  refine ⟨fun x hx => ?_, ?_⟩
  · rw [Array.toList_push] at hx
    rcases List.mem_append.1 hx with hx | hx
    · have := h.1 x hx; omega
    · simp at hx; rw [hx]; exact Nat.lt_succ_self _
  · rw [Array.toList_push, List.map_append]
    have h2 : (us.toList.map (·.born)).Pairwise (· ≠ ·) := h.2
    show (_ ++ _ : List Nat).Pairwise (· ≠ ·)
    refine List.pairwise_append.2 ⟨h2, by simp, fun a ha b hb => ?_⟩
    simp at hb
    obtain ⟨y, hy, he⟩ := List.mem_map.1 ha
    have := h.1 y hy
    omega

theorem Born.erase {us : Array MapEntry} {cl i : Nat} (h : Born us cl) : Born (us.eraseIdxIfInBounds i) cl := by
  have e5 : (us.eraseIdxIfInBounds i).toList = us.toList.eraseIdx i := by simp
  refine ⟨fun x hx => ?_, ?_⟩
  · rw [e5] at hx
    exact h.1 x (List.mem_of_mem_eraseIdx hx)
  · rw [e5]
    have h2 : (us.toList.map (·.born)).Pairwise (· ≠ ·) := h.2
    show (_ : List Nat).Pairwise (· ≠ ·)
    exact h2.sublist ((List.eraseIdx_sublist _ _).map _)

/-- A map's block is replaced. -/
theorem map_set {id g : Nat} {es es' : List (AV × AV)} {us us' : Array MapEntry} {cl cl' : Nat} (hs : StR w M θ σ) (hx : σ[id]? = some (.map es)) (hg : θ.tc id = some g) (hh : w.heap[g]? = some (.map us cl)) (he : EntR M θ es' us') (hbn : Born us' cl') :
    Ext0 w M θ σ { w with heap := w.heap.setIfInBounds g (.map us' cl') } M θ (σ.set id (.map es')) ∧ StR { w with heap := w.heap.setIfInBounds g (.map us' cl') } M θ (σ.set id (.map es')) := by
  have hlt : id < σ.length := (List.getElem?_eq_some_iff.1 hx).1
  have hgl : g < w.heap.size := (Array.getElem?_eq_some_iff.1 hh).1
  have h0 := hs.ob _ _ hx
  refine set_ext hs hx θ.le_refl (fun j _ => ⟨fun _ => rfl, rfl⟩) (fun k _ hk => ?_) (fun k hk => .inl (by rw [ownAt_set hlt] at hk; unfold OwnAt; rw [hx]; exact hk)) ⟨h0.1, g, us', cl', hg, ?_, he, hbn⟩ rfl rfl rfl (by simp)
  · show (w.heap.setIfInBounds g _)[k]? = _
    rw [Array.getElem?_setIfInBounds_ne]
    intro e; subst e; exact hk (by unfold OwnAt; rw [hx]; exact hg)
  · show (w.heap.setIfInBounds g _)[g]? = _
    simp [hgl]

theorem findE_lt {k : AV} : ∀ {es : List (AV × AV)} {i j : Nat} {v : AV}, findE k es i = some (some (j, v)) → i ≤ j ∧ ∃ k', es[j - i]? = some (k', v) ∧ keyEq k k' = some true
  | [], i, j, v, h => by simp [findE] at h
  | (k', v') :: es, i, j, v, h => by
    simp only [findE] at h
    split at h
    · rename_i hq; cases h; exact ⟨Nat.le_refl _, k', by simp, hq⟩
    · obtain ⟨h1, k2, h2, h3⟩ := findE_lt h
      refine ⟨by omega, k2, ?_, h3⟩
      have : j - i = (j - (i + 1)) + 1 := by omega
      rw [this]; simpa using h2
    · cases h

theorem sameBits_cells : ∀ {xs ys : List AV} {us vs : Array Value}, CellsR M θ xs us → CellsR M θ ys vs → cellsEq xs ys = some true → ∀ n, ((us.toList.zip vs.toList).all fun (x, y) => Instr.sameBits n x y) = true ∧ us.size = vs.size := by
  intro xs
  induction xs with
  | nil =>
    intro ys us vs h1 h2 h n
    cases ys with
    | nil =>
      have e1 : us = #[] := Array.eq_empty_of_size_eq_zero (by simpa using h1.1)
      have e2 : vs = #[] := Array.eq_empty_of_size_eq_zero (by simpa using h2.1)
      subst e1; subst e2; simp
    | cons y ys => simp [cellsEq] at h
  | cons x xs ih =>
    intro ys us vs h1 h2 h n
    cases ys with
    | nil => simp [cellsEq] at h
    | cons y ys =>
      simp only [cellsEq] at h
      split at h
      · rename_i hq
        obtain ⟨us⟩ := us
        obtain ⟨vs⟩ := vs
        cases us with
        | nil => have := h1.1; simp at this
        | cons u us =>
          cases vs with
          | nil => have := h2.1; simp at this
          | cons v vs =>
            have g1 : CellsR M θ xs us.toArray := ⟨by have := h1.1; simpa using this, fun i c hc => by simpa [Array.getD_eq_getD_getElem?] using h1.2 (i + 1) c (by simpa using hc)⟩
            have g2 : CellsR M θ ys vs.toArray := ⟨by have := h2.1; simpa using this, fun i c hc => by simpa [Array.getD_eq_getD_getElem?] using h2.2 (i + 1) c (by simpa using hc)⟩
            have := ih g1 g2 h n
            have c1 : Cell M θ x u := by simpa [Array.getD_eq_getD_getElem?] using h1.2 0 x rfl
            have c2 : Cell M θ y v := by simpa [Array.getD_eq_getD_getElem?] using h2.2 0 y rfl
            have hb : Instr.sameBits n u v = true := by
              unfold cellEq at hq
              split at hq
              · cases c1; cases c2
                split at hq
                · rename_i e; subst e; simp at hq; simp [Instr.sameBits, hq]
                · cases hq
              · cases c1; cases c2; simp at hq; simp [Instr.sameBits, hq]
              · rename_i s s'
                cases c1; cases c2
                have : (s == s') = true := by rw [beq_toListBytes]; simpa using hq
                simp only [Instr.sameBits]; exact this
              · cases hq
            refine ⟨?_, by have := this.2; simpa using this⟩
            simp only [List.zip_cons_cons, List.all_cons, hb, Bool.true_and]
            exact this.1
      · cases h
      · cases h

theorem keyStays_run {k k' : AV} {u u' : Value} (h1 : RepA M θ k u) (h2 : RepA M θ k' u') (h : keyEq k k' = some true) : (Instr.keyThatStays u' u).run P w = .ok u w := by
  have hb : Instr.sameBits 10000 u' u = true := by
    unfold keyEq at h
    split at h
    · rename_i xs ys
      obtain ⟨us, rfl, g1⟩ := h1
      obtain ⟨vs, rfl, g2⟩ := h2
      have hsym : cellsEq ys xs = some true := by
        clear g1 g2
        induction xs generalizing ys with
        | nil => cases ys with
          | nil => rfl
          | cons y ys => simp [cellsEq] at h
        | cons x xs ih => cases ys with
          | nil => simp [cellsEq] at h
          | cons y ys =>
            simp only [cellsEq] at h ⊢
            split at h
            · rename_i hq
              have : cellEq y x = some true := by
                unfold cellEq at hq ⊢
                split at hq
                · split at hq
                  · rename_i e; subst e; simp at hq; simp [hq]
                  · cases hq
                · simp at hq; simp [hq]
                · simp at hq; simp [hq]
                · cases hq
              rw [this]
              exact ih _ h
            · cases h
            · cases h
      have := sameBits_cells g2 g1 hsym 9999
      show Instr.sameBits (9999 + 1) (.agg vs) (.agg us) = true
      simp only [Instr.sameBits, Bool.and_eq_true, beq_iff_eq]
      exact ⟨this.2, this.1⟩
    · have a1 : ∀ cs, k ≠ .agg cs := fun cs e => by subst e; simp [cellEq] at h
      have a2 : ∀ cs, k' ≠ .agg cs := fun cs e => by subst e; unfold cellEq at h; split at h <;> simp_all
      have c1 := h1.cell a1
      have c2 := h2.cell a2
      unfold cellEq at h
      split at h
      · cases c1; cases c2
        split at h
        · rename_i e; subst e; simp at h; simp [Instr.sameBits, h]
        · cases h
      · cases c1; cases c2; simp at h; simp [Instr.sameBits, h]
      · rename_i s s' _
        cases c1; cases c2
        have : (s' == s) = true := by rw [beq_toListBytes]; simp at h; simp [h]
        simp only [Instr.sameBits]; exact this
      · cases h
  simp [Instr.keyThatStays, hb]

theorem op_mapUpdate {base : Nat} {t : TypeId} {x y z : Operand} {m k v : AV} {σ' : St} (hs : StR w M θ σ) (hf : FrR w M θ σ π env a.tmps) (hd : okDst env o.dst = true) (ho : o.op = .mapUpdate t x y z)
    (hx : lookV env x = some m) (hy : lookV env y = some k) (hz : lookV env z = some v) (hr : mapPut P base σ t m k v = some σ') : OpS P w M θ σ π o a env σ' .und := by
  have hm := lookV_sound hf hx
  have hk := lookV_sound hf hy
  have hv := lookV_sound hf hz
  unfold mapPut at hr
  split at hr
  · rename_i kt e ht
    have hu := lowMapOk_spec ht
    split at hr
    · rename_i hkok
      split at hr
      · rename_i id
        split at hr
        · split at hr
          · rename_i es hes
            obtain ⟨g, hg, e1⟩ := hm.rep.mapS
            obtain ⟨_, g', us, clock, h1, h2, h3, hbn⟩ := hs.ob _ _ hes
            rw [hg] at h1; cases h1
            have hc := checkKey_run (P := P) (w := w) (em := false) hkok hk
            split at hr
            · rename_i i w0 hfe
              cases hr
              obtain ⟨r', h4, h5⟩ := findKey_run (P := P) (w := w) hkok hk h3.toL hfe
              obtain ⟨zv, rfl, _⟩ := h5
              obtain ⟨_, k', h6, h7⟩ := findE_lt hfe
              simp only [Nat.sub_zero] at h6
              obtain ⟨en, h8, h9, h10⟩ := h3.2 i k' w0 h6
              have hi : i < us.size := (Array.getElem?_eq_some_iff.1 h8).1
              have hil : i < es.length := by rw [← h3.1]; exact hi
              have hks := keyStays_run (P := P) (w := w) hk h9 h7
              obtain ⟨q1, q2⟩ := map_set (us' := us.modify i fun e => { e with key := a.eval y, val := a.eval z }) (cl' := clock) (es' := es.set i (k, v)) hs hes hg h2 (by
                refine ⟨by simp [h3.1], fun j k2 v2 hj => ?_⟩
                by_cases e2 : j = i
                · subst e2
                  rw [List.getElem?_set_self hil] at hj; cases hj
                  exact ⟨{ en with key := a.eval y, val := a.eval z }, by simp [Array.getElem?_modify, h8], hk, hv⟩
                · rw [List.getElem?_set_ne (Ne.symm e2)] at hj
                  obtain ⟨e3, h11, h12⟩ := h3.2 j k2 v2 hj
                  exact ⟨e3, by simp [Array.getElem?_modify, Ne.symm e2, h11], h12⟩) (hbn.modify fun _ => rfl)
              refine .goU hf hd ?_ q1 q2
              simp only [execOp, ho, Instr.mapUpdate, e1, Sem.run_bind, run_underlying hu, Result.andThen_ok, getObj_map h2, hc, h4, h8, Option.map_some, Option.getD_some, hks, setObj_map _ h2, Sem.run_pure]
            · rename_i hfe
              cases hr
              obtain ⟨r', h4, h5⟩ := findKey_run (P := P) (w := w) hkok hk h3.toL hfe
              subst h5
              obtain ⟨q1, q2⟩ := map_set (us' := us.push { key := a.eval y, val := a.eval z, born := clock }) (cl' := clock + 1) (es' := es ++ [(k, v)]) hs hes hg h2 (by
                refine ⟨by simp [h3.1], fun j k2 v2 hj => ?_⟩
                by_cases e2 : j < es.length
                · rw [List.getElem?_append_left e2] at hj
                  obtain ⟨e3, h11, h12⟩ := h3.2 j k2 v2 hj
                  exact ⟨e3, by rw [Array.getElem?_push, if_neg (by rw [h3.1]; omega)]; exact h11, h12⟩
                · rw [List.getElem?_append_right (by omega)] at hj
                  have : j - es.length = 0 := by
                    cases e4 : j - es.length with
                    | zero => rfl
                    | succ n => rw [e4] at hj; simp at hj
                  rw [this] at hj; cases hj
                  have : j = us.size := by rw [h3.1]; omega
                  exact ⟨_, by rw [Array.getElem?_push, if_pos this], hk, hv⟩) hbn.push
              refine .goU hf hd ?_ q1 q2
              simp only [execOp, ho, Instr.mapUpdate, e1, Sem.run_bind, run_underlying hu, Result.andThen_ok, getObj_map h2, hc, h4, setObj_map _ h2, Sem.run_pure]
            · cases hr
          · cases hr
        · cases hr
      · cases hr
    · cases hr
  · cases hr

end
end Go.Can
