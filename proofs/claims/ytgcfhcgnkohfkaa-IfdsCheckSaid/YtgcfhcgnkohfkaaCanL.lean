/- The operations, ninth part: append. -/
import Derived.Test.YtgcfhcgnkohfkaaCanK
set_option linter.unusedSimpArgs false
set_option linter.unusedVariables false
namespace Go.Can
open Go Go.RowKit
section
variable {P : Program} {w : World} {M : Mem} {θ : Th} {σ : St} {π : Nat → Option Nat} {env : Env} {o : Oper} {a : Act}

theorem slice_some {s : AV} {sz : Nat} {ys : List AV} {ad : Option Addr} {len cap : Nat} (hc : Cell M θ s (.slice ad len cap)) (he : elems σ sz s = some ys) (hl : 0 < len) : ∃ g o, ad = some ⟨g, o, none⟩ := by
  generalize hv : Value.slice ad len cap = u at hc
  cases hc with
  | list f s' xs a0 cap0 u0 hcl hml hfl hsl hal hel =>
    cases hv
    have hne : xs ≠ [] := by intro e; subst e; simp at hl
    obtain ⟨g, o, e, _⟩ := hal hne
    exact ⟨g, o, e⟩
  | row s' id gen off len' lim a0 cap0 cap1 b0 ht h1 hg hm hb hcap ha =>
    cases hv
    rcases ha with ha | ⟨g, _, ha⟩
    · exfalso; subst hcap; split at ha <;> omega
    · exact ⟨g, _, ha⟩
  | _ => cases hv

theorem elems_read {s : AV} {sz : Nat} {ys : List AV} {ad : Option Addr} {len cap : Nat} (hs : StR w M θ σ) (hc : Cell M θ s (.slice ad len cap)) (he : elems σ sz s = some ys) (hsz : 0 < sz) :
    ys.length = len ∧ (∀ y ∈ ys, y.cells.length = sz) ∧ ∃ news : List Value, news.length = len * sz ∧ (∀ w', w'.heap = w.heap → (Builtin.firstCells sz len (.slice ad len cap)).run P w' = .ok news.toArray w') ∧ RowR M θ sz ys news.toArray ∧ ∀ u ∈ news, u.oneCell' = true := by
  have hlen : ys.length = len ∧ ∀ y ∈ ys, y.cells.length = sz := by
    have he' := he
    unfold elems at he'
    generalize hv : Value.slice ad len cap = u at hc
    split at he'
    · rename_i f s' xs
      split at he'
      · rename_i hcond
        cases he'
        cases hc with
        | list _ _ _ a0 cap0 u0 hcl hml hfl hsl hal hel =>
          cases hv
          refine ⟨rfl, fun y hy => ?_⟩
          rcases Bool.or_eq_true _ _ ▸ hcond with h6 | h6
          · rw [← (by simpa using h6 : s' = sz)]; exact hsl y hy
          · have : ys = [] := by simpa using h6
            subst this; simp at hy
      · cases he'
    · rename_i s' id gen off len' lim
      split at he'
      · rename_i s2 xs hob
        split at he'
        · rename_i hcond
          simp only [Bool.and_eq_true, beq_iff_eq] at hcond
          cases he'
          cases hc with
          | row _ _ _ _ _ _ a0 cap0 cap1 b0 ht h1 hg hm hb hcap ha =>
            cases hv
            obtain ⟨_, _, _, k4, b, cap2, k5, _⟩ := hs.ob _ _ hob
            rw [hcond.2, k5] at ht
            simp only [Option.some.injEq, Prod.mk.injEq] at ht
            refine ⟨by simp; omega, fun y hy => ?_⟩
            rw [← hcond.1, ← ht.2.2]
            exact k4 y (List.mem_of_mem_drop (List.mem_of_mem_take hy))
        · cases he'
      · cases he'
    · cases he'
  refine ⟨hlen.1, hlen.2, ?_⟩
  rcases Nat.eq_zero_or_pos len with h0 | h0
  · subst h0
    have : ys = [] := List.eq_nil_of_length_eq_zero hlen.1
    subst this
    refine ⟨[], by simp, fun w' _ => ?_, fun i x hx => by simp at hx, by simp⟩
    cases ad <;> simp [Builtin.firstCells, loadCells, loadCellsFrom]
  · obtain ⟨g, o1, rfl⟩ := slice_some hc he h0
    have cellAt : ∀ p, p < len * sz → ∃ c u, (∃ y, ys[p / sz]? = some y ∧ y.cells[p % sz]? = some c) ∧ w.cell? ⟨g, o1 + p, none⟩ = some u ∧ Cell M θ c u := by
      intro p hp
      have hi : p / sz < len := Nat.div_lt_of_lt_mul (by rw [Nat.mul_comm]; exact hp)
      have hj : p % sz < sz := Nat.mod_lt _ hsz
      have hy : ys[p / sz]? = some ys[p / sz] := List.getElem?_eq_getElem (by omega)
      have hcl := hlen.2 _ (List.mem_of_getElem? hy)
      have hcc : (ys[p / sz]).cells[p % sz]? = some (ys[p / sz]).cells[p % sz] := List.getElem?_eq_getElem (by omega)
      obtain ⟨u, h1, h2⟩ := elm_cells hs hc hi he hy _ _ hcc
      refine ⟨_, u, ⟨_, hy, hcc⟩, ?_, h2⟩
      have : o1 + p = o1 + p / sz * sz + p % sz := by have := Nat.div_add_mod p sz; rw [Nat.mul_comm] at this; omega
      rw [this]; exact h1
    let news : List Value := (List.range (len * sz)).map fun p => (w.cell? ⟨g, o1 + p, none⟩).getD undef
    have hnl : news.length = len * sz := by simp [news]
    have hnp : ∀ p, p < len * sz → news[p]? = some ((w.cell? ⟨g, o1 + p, none⟩).getD undef) := fun p hp => by simp [news, List.getElem?_range hp]
    refine ⟨news, hnl, fun w' hw' => ?_, fun i y hy j c hj => ?_, fun u hu => ?_⟩
    · have : (loadCells ⟨g, o1, none⟩ news.length).run P w' = .ok news.toArray w' := run_loadCells_list (P := P) w' ⟨g, o1, none⟩ news fun p u hu => by
        have hp : p < len * sz := by rw [← hnl]; exact (List.getElem?_eq_some_iff.1 hu).1
        obtain ⟨c, u', _, h2, _⟩ := cellAt p hp
        rw [hnp p hp, h2] at hu
        simp at hu
        rw [addr_add]
        have : w'.cell? ⟨g, o1 + p, none⟩ = w.cell? ⟨g, o1 + p, none⟩ := by simp [World.cell?, hw']
        rw [this, h2, hu]
      rw [hnl] at this
      exact this
    · have hi : i < len := by rw [← hlen.1]; exact (List.getElem?_eq_some_iff.1 hy).1
      have hj' : j < sz := by rw [← hlen.2 y (List.mem_of_getElem? hy)]; exact (List.getElem?_eq_some_iff.1 hj).1
      obtain ⟨u, h1, h2⟩ := elm_cells hs hc hi he hy _ _ hj
      have hp : i * sz + j < len * sz := by
        have h6 : i * sz + j < (i + 1) * sz := by rw [Nat.add_mul]; omega
        exact Nat.lt_of_lt_of_le h6 (Nat.mul_le_mul_right _ (by omega))
      have : news.toArray.getD (i * sz + j) undef = u := by
        simp only [Array.getD_eq_getD_getElem?, List.getElem?_toArray, hnp _ hp]
        rw [← Nat.add_assoc, h1]; rfl
      rw [this]; exact h2
    · obtain ⟨p, hp, rfl⟩ := List.getElem_of_mem hu
      obtain ⟨c, u', _, h2, h3⟩ := cellAt p (by rw [← hnl]; exact hp)
      have := hnp p (by rw [← hnl]; exact hp)
      rw [List.getElem?_eq_getElem hp, h2] at this
      simp at this
      rw [this]; exact h3.oneCell

theorem append_room {t t' ty e e' : TypeId} {i : TypeInfo} (ht : P.underlying t = some (.slice e)) (ht' : P.underlying t' = some (.slice e')) (hi : P.info? e = some i) {base xa : Option Addr} {sLen sCap m xc : Nat} {news : List Value} {w' : World}
    (hfc : (Builtin.firstCells i.size m (.slice xa m xc)).run P w = .ok news.toArray w) (hroom : sLen + m ≤ sCap)
    (hst : ∀ ad, base = some ad → (storeCells (ad.add (sLen * i.size)) news).run P w = .ok () w') (hn : base = none → w' = w) :
    (Builtin.append_ #[t, t'] ty #[.slice base sLen sCap, .slice xa m xc]).run P w = .ok (.slice base (sLen + m) sCap) w' := by
  cases base with
  | none =>
    rw [hn rfl]
    simp [Builtin.append_, run_underlying ht, run_underlying ht', sizeOf, typeInfo, hi, Builtin.lenOf, hroom, hfc]
  | some ad =>
    have h := hst ad rfl
    simp [Builtin.append_, run_underlying ht, run_underlying ht', sizeOf, typeInfo, hi, Builtin.lenOf, hroom, hfc, h]

theorem append_grow {t t' ty e e' : TypeId} {i : TypeInfo} {z : Value} (ht : P.underlying t = some (.slice e)) (ht' : P.underlying t' = some (.slice e')) (hi : P.info? e = some i) (hz : i.zero = some z) {base xa : Option Addr} {sLen sCap m xc : Nat} {olds news : List Value}
    (hfc : (Builtin.firstCells i.size m (.slice xa m xc)).run P w.drew = .ok news.toArray w.drew) (hfo : (Builtin.firstCells i.size sLen (.slice base sLen sCap)).run P w.drew = .ok olds.toArray w.drew)
    (hroom : sCap < sLen + m) (h63 : sLen + m ≤ 9223372036854775807) (hfit : Builtin.nextslicecap (sLen + m) sCap * i.bytes ≤ 281474976710656) :
    (Builtin.append_ #[t, t'] ty #[.slice base sLen sCap, .slice xa m xc]).run P w =
      .ok (.slice (some ⟨w.heap.size, 0, none⟩) (sLen + m) (grownCap w (sLen + m) sCap e)) (w.drew.alloc (.cells (olds.toArray ++ news.toArray ++ Builtin.zeroCells z.cells (grownCap w (sLen + m) sCap e - (sLen + m))) e)) := by
  have hn : ¬ (sLen + m ≤ sCap) := by omega
  have h63' : ¬ (9223372036854775807 < ((sLen : Int) + (m : Int))) := by omega
  have h48' : ¬ (281474976710656 < Builtin.nextslicecap (sLen + m) sCap * i.bytes) := by omega
  simp [Builtin.append_, run_underlying ht, run_underlying ht', sizeOf, typeInfo, zeroValue, hi, hz, Builtin.lenOf, hn, h63', h48', Question.forced, hfc, hfo, newRow, grownCap]
  congr 2
  apply Array.ext'
  simp [List.append_assoc]

theorem RowR.append {sz : Nat} {xs ys : List AV} {us vs : List Value} {rest : Array Value} (hx : RowR M θ sz xs us.toArray) (hy : RowR M θ sz ys vs.toArray) (hu : us.length = xs.length * sz) (hv : vs.length = ys.length * sz)
    (h1 : ∀ x ∈ xs, x.cells.length = sz) (h2 : ∀ x ∈ ys, x.cells.length = sz) : RowR M θ sz (xs ++ ys) (us.toArray ++ vs.toArray ++ rest) := by
  intro i x hi j c hj
  by_cases h : i < xs.length
  · rw [List.getElem?_append_left h] at hi
    have hj' : j < sz := by rw [← h1 x (List.mem_of_getElem? hi)]; exact (List.getElem?_eq_some_iff.1 hj).1
    have hb : i * sz + j < us.length := by
      rw [hu]
      have h6 : i * sz + j < (i + 1) * sz := by rw [Nat.add_mul]; omega
      exact Nat.lt_of_lt_of_le h6 (Nat.mul_le_mul_right _ (by omega))
    have e : (us.toArray ++ vs.toArray ++ rest).getD (i * sz + j) undef = us.toArray.getD (i * sz + j) undef := by
      simp only [Array.getD_eq_getD_getElem?]
      rw [Array.getElem?_append_left (by simp; omega), Array.getElem?_append_left (by simp; omega)]
    rw [e]; exact hx i x hi j c hj
  · rw [List.getElem?_append_right (by omega)] at hi
    have hj' : j < sz := by rw [← h2 x (List.mem_of_getElem? hi)]; exact (List.getElem?_eq_some_iff.1 hj).1
    have hil : i - xs.length < ys.length := (List.getElem?_eq_some_iff.1 hi).1
    have hd : i * sz = xs.length * sz + (i - xs.length) * sz := by rw [← Nat.add_mul]; congr 1; omega
    have hb : (i - xs.length) * sz + j < vs.length := by
      rw [hv]
      have h6 : (i - xs.length) * sz + j < (i - xs.length + 1) * sz := by rw [Nat.add_mul]; omega
      exact Nat.lt_of_lt_of_le h6 (Nat.mul_le_mul_right _ (by omega))
    have e : (us.toArray ++ vs.toArray ++ rest).getD (i * sz + j) undef = vs.toArray.getD ((i - xs.length) * sz + j) undef := by
      simp only [Array.getD_eq_getD_getElem?]
      rw [Array.getElem?_append_left (by simp; omega), Array.getElem?_append_right (by simp; omega)]
      congr 2; simp; omega
    rw [e]; exact hy _ x hi j c hj

theorem RowR.mono {M' : Mem} {θ' : Th} {sz : Nat} {xs : List AV} {cur : Array Value} (h : RowR M θ sz xs cur) (hM : M.le M') (ht : θ.le θ') : RowR M' θ' sz xs cur := fun i x hi j c hj => (h i x hi j c hj).mono hM ht

theorem Ext.own_congr {w' : World} {M' : Mem} {θ' : Th} {σ1 σ' : St} (h : Ext0 w M θ σ1 w' M' θ' σ') (hg : ∀ g, Own θ σ1 g ↔ Own θ σ g) : Ext0 w M θ σ w' M' θ' σ' :=
  ⟨h.os, h.tape, h.output, h.size, h.m, h.t, fun g h1 h2 h3 => h.block g h1 (fun e => h2 ((hg g).1 e)) h3, fun g h1 => (h.own g h1).imp_left (hg g).1, h.var, fun g o v h1 => (h.dom g o v h1).imp_right (fun h2 => h2.imp_right (hg g).1)⟩

theorem set_last {σ : St} {x : Ob} : (σ ++ List.replicate 1 Ob.none).set σ.length x = σ ++ [x] := by simp

/-- A new object that is a row: in a new block, or without one. -/
theorem row_new {w' : World} {sz cap : Nat} {b : Option Nat} {xs : List AV} (hs : StR w M θ σ) (h0 : 0 < sz) (hx : ∀ x ∈ xs, x.cells.length = sz) (hl : xs.length ≤ cap) (hm : cap ≤ maxLen)
    (hb : match b with | none => xs = [] ∧ cap = 0 ∧ w'.heap = w.heap | some g => g = w.heap.size ∧ ∃ cur e, w'.heap = w.heap.push (.cells cur e (0, 0)) ∧ cur.size = cap * sz ∧ RowR M θ sz xs cur)
    (h1 : w'.os = w.os) (h2 : w'.tape = w.tape) (h3 : w'.output = w.output) :
    Ext0 w M θ σ w' M (θ.setR σ.length xs.length (b, cap, sz)) (σ ++ [.row sz xs]) ∧ StR w' M (θ.setR σ.length xs.length (b, cap, sz)) (σ ++ [.row sz xs]) := by
  obtain ⟨n1, n2⟩ := hs.none 1
  have hlast : (σ ++ List.replicate 1 Ob.none)[σ.length]? = some .none := by simp
  have hob := n1.ob _ _ hlast
  have hle := Th.le_setR (x := (b, cap, sz)) (hob.1 xs.length)
  have hk : ∀ k, k < w.heap.size → w'.heap[k]? = w.heap[k]? := by
    intro k hk
    cases b with
    | none => rw [hb.2.2]
    | some g =>
      obtain ⟨_, cur, e, h4, _⟩ := hb
      rw [h4, Array.getElem?_push, if_neg (by omega)]
  have hsz : w.heap.size ≤ w'.heap.size := by
    cases b with
    | none => rw [hb.2.2]; exact Nat.le_refl _
    | some g => obtain ⟨_, cur, e, h4, _⟩ := hb; rw [h4]; simp
  have key := set_ext (w' := w') (θ' := θ.setR σ.length xs.length (b, cap, sz)) (x' := .row sz xs) n1 hlast hle (fun j hj => Th.setR_ne hj) (fun k hk' _ => hk k hk') (fun g hg => by
      rw [ownAt_set (by simp)] at hg
      obtain ⟨cap', s, hg⟩ := hg
      rw [Th.setR_self] at hg
      simp only [Option.some.injEq, Prod.mk.injEq] at hg
      obtain ⟨rfl, _, _⟩ := hg
      exact .inr (Nat.le_of_eq hb.1.symm)) ⟨hob.2, fun gen y hy => (by
        rcases Th.setR_of hy with h | h
        · omega
        · rw [hob.1] at h; cases h), h0, hx, b, cap, Th.setR_self _ _ _, hl, hm, by
        cases b with
        | none => exact ⟨hb.1, hb.2.1⟩
        | some g =>
          obtain ⟨rfl, cur, e, h4, h5, h6⟩ := hb
          exact ⟨cur, e, by rw [h4]; simp, h5, h6.mono M.le_refl hle⟩⟩ h1 h2 h3 hsz
  rw [set_last] at key
  exact ⟨key.1.own_congr n2, key.2⟩

/-- A row that has got longer, or whose elements have been written over: in its block, or in a new one. -/
theorem row_grow {w' : World} {sz cap id g : Nat} {s2 : Nat} {xs ys : List AV} (hs : StR w M θ σ) (hx : σ[id]? = some (.row s2 xs)) (hl : xs.length < ys.length ∨ (xs.length = ys.length ∧ θ.tr id ys.length = some (some g, cap, sz)))
    (h0 : 0 < sz) (hy : ∀ x ∈ ys, x.cells.length = sz) (hc : ys.length ≤ cap) (hm : cap ≤ maxLen) (hg : OwnAt θ σ id g ∨ w.heap.size ≤ g) (hw : ∀ k, k < w.heap.size → ¬ OwnAt θ σ id k → w'.heap[k]? = w.heap[k]?)
    (hb : ∃ cur e, w'.heap[g]? = some (.cells cur e (0, 0)) ∧ cur.size = cap * sz ∧ RowR M θ sz ys cur) (hsz : w.heap.size ≤ w'.heap.size) (h1 : w'.os = w.os) (h2 : w'.tape = w.tape) (h3 : w'.output = w.output) :
    ∃ θ', θ.le θ' ∧ θ'.tr id ys.length = some (some g, cap, sz) ∧ Ext0 w M θ σ w' M θ' (σ.set id (.row sz ys)) ∧ StR w' M θ' (σ.set id (.row sz ys)) := by
  have hlt : id < σ.length := (List.getElem?_eq_some_iff.1 hx).1
  obtain ⟨k1, k2, k3, k4, b, cap0, k5, k6, k7, k8⟩ := hs.ob _ _ hx
  have main : ∀ θ', θ.le θ' → θ'.tr id ys.length = some (some g, cap, sz) → (∀ j, j ≠ id → (∀ gen, θ'.tr j gen = θ.tr j gen) ∧ θ'.tc j = θ.tc j) → θ'.tc id = none → (∀ gen x, θ'.tr id gen = some x → gen ≤ ys.length) →
      Ext0 w M θ σ w' M θ' (σ.set id (.row sz ys)) ∧ StR w' M θ' (σ.set id (.row sz ys)) := by
    intro θ' hle ht hne htc hgen
    obtain ⟨cur, e, b1, b2, b3⟩ := hb
    refine set_ext hs hx hle hne hw (fun k hk => ?_) ⟨htc, hgen, h0, hy, some g, cap, ht, hc, hm, cur, e, b1, b2, b3.mono M.le_refl hle⟩ h1 h2 h3 hsz
    rw [ownAt_set hlt] at hk
    obtain ⟨cap', s, hk⟩ := hk
    rw [ht] at hk
    simp only [Option.some.injEq, Prod.mk.injEq] at hk
    rw [← hk.1]; exact hg
  rcases hl with hl | ⟨hl, ht⟩
  · have hn : θ.tr id ys.length = none := by
      cases e : θ.tr id ys.length with
      | none => rfl
      | some x => have := k2 _ _ e; omega
    have hle := Th.le_setR (x := (some g, cap, sz)) hn
    refine ⟨_, hle, Th.setR_self _ _ _, main _ hle (Th.setR_self _ _ _) (fun j hj => Th.setR_ne hj) k1 (fun gen x h => ?_)⟩
    rcases Th.setR_of h with h | h
    · omega
    · have := k2 _ _ h; omega
  · exact ⟨θ, θ.le_refl, ht, main θ θ.le_refl ht (fun j _ => ⟨fun _ => rfl, rfl⟩) k1 (fun gen x h => by have := k2 _ _ h; omega)⟩

end
end Go.Can
