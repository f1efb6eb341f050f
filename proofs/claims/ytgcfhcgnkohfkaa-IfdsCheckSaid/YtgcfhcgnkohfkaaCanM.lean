/- The operations, tenth part: append, put together. -/
import Derived.Test.YtgcfhcgnkohfkaaCanL
set_option linter.unusedSimpArgs false
set_option linter.unusedVariables false
namespace Go.Can
open Go Go.RowKit
section
variable {P : Program} {w : World} {M : Mem} {θ : Th} {σ : St} {π : Nat → Option Nat} {env : Env} {o : Oper} {a : Act}

theorem row_splice {sz p : Nat} {xs ys : List AV} {cur : Array Value} {news : List Value} (hr : RowR M θ sz xs cur) (hn : RowR M θ sz ys news.toArray) (hx : ∀ x ∈ xs, x.cells.length = sz) (hy : ∀ x ∈ ys, x.cells.length = sz)
    (hp : p ≤ xs.length) (hl : news.length = ys.length * sz) (hb : p * sz + news.length ≤ cur.size) :
    RowR M θ sz (xs.take p ++ ys ++ xs.drop (p + ys.length)) (cur.toList.take (p * sz) ++ news ++ cur.toList.drop (p * sz + news.length)).toArray ∧ ∀ x ∈ xs.take p ++ ys ++ xs.drop (p + ys.length), x.cells.length = sz := by
  have htl : (xs.take p).length = p := by simp; omega
  refine ⟨fun i x hi j c hj => ?_, fun x hx' => ?_⟩
  · have e : ((cur.toList.take (p * sz) ++ news ++ cur.toList.drop (p * sz + news.length)).toArray).getD (i * sz + j) undef =
        if i * sz + j < p * sz then cur.getD (i * sz + j) undef else if i * sz + j < p * sz + news.length then news.toArray.getD (i * sz + j - p * sz) undef else cur.getD (i * sz + j) undef := by
      simp only [Array.getD_eq_getD_getElem?, List.getElem?_toArray]
      rw [getElem?_splice (by rw [Array.length_toList]; exact hb)]
      split
      · simp
      · split <;> simp
    rw [e]
    by_cases c1 : i < p
    · rw [List.append_assoc, List.getElem?_append_left (by omega), List.getElem?_take_of_lt c1] at hi
      have hj' : j < sz := by rw [← hx x (List.mem_of_getElem? hi)]; exact (List.getElem?_eq_some_iff.1 hj).1
      have : i * sz + j < p * sz := by
        have h6 : i * sz + j < (i + 1) * sz := by rw [Nat.add_mul]; omega
        exact Nat.lt_of_lt_of_le h6 (Nat.mul_le_mul_right _ (by omega))
      rw [if_pos this]; exact hr i x hi j c hj
    · have hpi : p * sz ≤ i * sz := Nat.mul_le_mul_right _ (by omega)
      by_cases c2 : i < p + ys.length
      · rw [List.append_assoc, List.getElem?_append_right (by omega), htl, List.getElem?_append_left (by omega)] at hi
        have hj' : j < sz := by rw [← hy x (List.mem_of_getElem? hi)]; exact (List.getElem?_eq_some_iff.1 hj).1
        have hd : i * sz = p * sz + (i - p) * sz := by rw [← Nat.add_mul]; congr 1; omega
        have hb2 : (i - p) * sz + j < news.length := by
          rw [hl]
          have h6 : (i - p) * sz + j < (i - p + 1) * sz := by rw [Nat.add_mul]; omega
          exact Nat.lt_of_lt_of_le h6 (Nat.mul_le_mul_right _ (by omega))
        rw [if_neg (by omega), if_pos (by omega)]
        have : i * sz + j - p * sz = (i - p) * sz + j := by omega
        rw [this]; exact hn _ x hi j c hj
      · rw [List.getElem?_append_right (by simp; omega), List.getElem?_drop] at hi
        have e2 : p + ys.length + (i - (xs.take p ++ ys).length) = i := by simp; omega
        rw [e2] at hi
        have hge : (p + ys.length) * sz ≤ i * sz := Nat.mul_le_mul_right _ (by omega)
        rw [Nat.add_mul] at hge
        rw [if_neg (by omega), if_neg (by omega)]; exact hr i x hi j c hj
  · simp only [List.mem_append] at hx'
    rcases hx' with (h | h) | h
    · exact hx x (List.mem_of_mem_take h)
    · exact hy x h
    · exact hx x (List.mem_of_mem_drop h)

theorem firstCells_zero {sz : Nat} {ad : Option Addr} {cap : Nat} (w' : World) : (Builtin.firstCells sz 0 (.slice ad 0 cap)).run P w' = .ok ([] : List Value).toArray w' := by
  cases ad <;> simp [Builtin.firstCells, loadCells, loadCellsFrom]

theorem set_same {id : Nat} {x : Ob} (h : σ[id]? = some x) : σ.set id x = σ := by
  apply List.ext_getElem?
  intro j
  by_cases e : j = id
  · subst e; rw [List.getElem?_set_self (List.getElem?_eq_some_iff.1 h).1, h]
  · rw [List.getElem?_set_ne (Ne.symm e)]

theorem slice_of_elems {sz : Nat} {x : AV} {ys : List AV} {u : Value} (h : elems σ sz x = some ys) (hr : Rep M θ x u) : ∃ ad len cap, u = .slice ad len cap ∧ Cell M θ x (.slice ad len cap) := by
  unfold elems at h
  split at h
  · obtain ⟨ad, cap, e⟩ := hr.list; exact ⟨ad, _, cap, e, by rw [← e]; exact hr⟩
  · obtain ⟨ad, cap, e⟩ := hr.row; exact ⟨ad, _, cap, e, by rw [← e]; exact hr⟩
  · cases h

theorem append_sound {t t' ty e e' : TypeId} {i : TypeInfo} {zv : Value} {base sz bytes : Nat} {s x r : AV} {us ux : Value} {ys : List AV} {σ' : St} (hs : StR w M θ σ) (ht : P.underlying t = some (.slice e)) (ht' : P.underlying t' = some (.slice e')) (hi : P.info? e = some i)
    (hz : i.zero = some zv) (hi1 : i.size = sz) (hi2 : i.bytes = bytes) (hzs : zv.cells.size = sz) (hsz : 0 < sz) (hby : 0 < bytes) (hus : Rep M θ s us) (hux : Rep M θ x ux) (he : elems σ sz x = some ys) (hr : appendTo base σ sz bytes s ys = some (r, σ')) :
    ∃ v w' θ', (Builtin.append_ #[t, t'] ty #[us, ux]).run P w = .ok v w' ∧ Ext0 w M θ σ w' M θ' σ' ∧ StR w' M θ' σ' ∧ Rep M θ' r v := by
  obtain ⟨xa, m, xc, rfl, hcx⟩ := slice_of_elems he hux
  obtain ⟨hm, hys, news, hnl, hfc, hnr, hn1⟩ := elems_read (P := P) hs hcx he hsz
  subst hi1
  have small : ∀ {n : Nat}, n * bytes ≤ 140737488355328 → n ≤ 140737488355328 := fun {n} h => by
    have : n * 1 ≤ n * bytes := Nat.mul_le_mul_left _ hby
    omega
  have same : ∀ {ad : Option Addr} {len cap : Nat}, len ≤ cap → m = 0 → (Builtin.append_ #[t, t'] ty #[.slice ad len cap, .slice xa m xc]).run P w = .ok (.slice ad len cap) w := by
    intro ad len cap hle hm0
    have hn0 : news = [] := List.eq_nil_of_length_eq_zero (by rw [hnl, hm0]; simp)
    have := append_room (P := P) (w := w) (w' := w) (ty := ty) (base := ad) (sLen := len) (sCap := cap) (xc := xc) ht ht' hi (hfc w rfl) (by omega) (fun ad' _ => by rw [hn0]; simp [storeCells]) (fun _ => rfl)
    rw [this, hm0]; rfl
  have grow : ∀ {ad : Option Addr} {len cap : Nat} {olds : List Value}, cap < len + m → (len + m) * bytes ≤ 140737488355328 → (∀ w', w'.heap = w.heap → (Builtin.firstCells i.size len (.slice ad len cap)).run P w' = .ok olds.toArray w') →
      ∃ ncap, len + m ≤ ncap ∧ ncap ≤ maxLen ∧ (Builtin.append_ #[t, t'] ty #[.slice ad len cap, .slice xa m xc]).run P w =
        .ok (.slice (some ⟨w.heap.size, 0, none⟩) (len + m) ncap) (w.drew.alloc (.cells (olds.toArray ++ news.toArray ++ Builtin.zeroCells zv.cells (ncap - (len + m))) e)) := by
    intro ad len cap olds h1 h2 h4
    have h3 := small h2
    rw [← hi2] at h2
    exact ⟨grownCap w (len + m) cap e, grownCap_ge _ _ _ _, grownCap_le_maxLen _ _ _ _ (by simp only [maxLen]; omega), append_grow (P := P) ht ht' hi hz (hfc w.drew rfl) (h4 w.drew rfl) h1 (by omega) (growslice_fits h1 h2)⟩
  have gsize : ∀ {os : List AV} {olds : List Value} {ncap : Nat}, olds.length = os.length * i.size → (os.length + m) ≤ ncap → (olds.toArray ++ news.toArray ++ Builtin.zeroCells zv.cells (ncap - (os.length + m))).size = ncap * i.size := by
    intro os olds ncap h1 h2
    simp only [Array.size_append, List.size_toArray, size_zeroCells, hzs, h1, hnl, ← Nat.add_mul]
    congr 1; omega
  have heap_drew : ∀ X : Obj, (w.drew.alloc X).heap = w.heap.push X := fun _ => rfl
  unfold appendTo at hr
  split at hr
  · -- a list without elements
    rename_i full s'
    obtain ⟨ad, len, cap, rfl, hcs⟩ := slice_of_elems (σ := σ) (sz := i.size) (ys := []) (by simp [elems]) hus
    generalize hv : Value.slice ad len cap = u at hcs
    cases hcs with
    | list _ _ _ a0 cap0 u0 hcl hml hfl hsl hal hel =>
      cases hv
      split at hr
      · rename_i hcond
        simp only [Bool.and_eq_true, decide_eq_true_eq] at hcond
        split at hr
        · rename_i hfull
          cases hr
          have hc0 : cap = 0 := by simpa using hfl hfull
          subst hc0
          rcases Nat.eq_zero_or_pos m with h0 | h0
          · have hy0 : ys = [] := List.eq_nil_of_length_eq_zero (by omega)
            subst hy0
            obtain ⟨q1, q2⟩ := row_new (w' := w) (cap := 0) (b := none) (xs := []) hs hsz (by simp) (by simp) (by simp [maxLen]) ⟨rfl, rfl, rfl⟩ rfl rfl rfl
            exact ⟨_, w, _, same (Nat.le_refl _) h0, q1, q2, (Cell.row i.size σ.length 0 0 0 false ad 0 0 none (Th.setR_self _ _ _) (by omega) (by omega) (by simp [maxLen]) (fun _ => rfl) rfl (.inl rfl)).rep⟩
          · obtain ⟨ncap, g1, g2, g3⟩ := grow (ad := ad) (len := 0) (cap := 0) (olds := []) (by omega) (by rw [Nat.zero_add, ← hm]; exact hcond.1) (fun w' _ => firstCells_zero w')
            have hcur := RowR.append (M := M) (θ := θ) (xs := []) (ys := ys) (us := []) (vs := news) (rest := Builtin.zeroCells zv.cells (ncap - (0 + m))) (fun i x hx => by simp at hx) hnr (by simp) (by rw [hnl, hm]) (by simp) hys
            obtain ⟨q1, q2⟩ := row_new (w' := w.drew.alloc (.cells (([] : List Value).toArray ++ news.toArray ++ Builtin.zeroCells zv.cells (ncap - (0 + m))) e)) (cap := ncap) (b := some w.heap.size) (xs := ys) hs hsz hys (by omega) g2
              ⟨rfl, _, e, heap_drew _, by have := gsize (os := []) (olds := []) (ncap := ncap) (by simp) (by simpa using g1); simpa using this, by simpa using hcur⟩ rfl rfl rfl
            refine ⟨_, _, _, g3, q1, q2, Cell.rep ?_⟩
            have := Cell.row (M := M) (θ := θ.setR σ.length ys.length (some w.heap.size, ncap, i.size)) i.size σ.length ys.length 0 ys.length false (some ⟨w.heap.size, 0, none⟩) ncap ncap (some w.heap.size) (Th.setR_self _ _ _) (by omega) (by omega) g2 (by simp) (by simp) (.inr ⟨_, rfl, by simp⟩)
            rw [hm] at this ⊢
            simpa using this
        · split at hr
          · rename_i hemp
            cases hr
            have h0 : m = 0 := by rw [← hm]; simpa using hemp
            exact ⟨_, w, θ, same (Nat.zero_le _) h0, Ext.refl _ _ _ _ _, hs, hus⟩
          · cases hr
      · cases hr
  · -- a list with elements
    rename_i full s' x1 xs
    obtain ⟨ad, len, cap, rfl, hcs⟩ := slice_of_elems (σ := σ) (sz := s') (ys := x1 :: xs) (by simp [elems]) hus
    have hcs' := hcs
    generalize hv : Value.slice ad len cap = u at hcs
    cases hcs with
    | list _ _ _ a0 cap0 u0 hcl hml hfl hsl hal hel =>
      cases hv
      split at hr
      · rename_i hemp
        cases hr
        have h0 : m = 0 := by rw [← hm]; simpa using hemp
        exact ⟨_, w, θ, same hcl h0, Ext.refl _ _ _ _ _, hs, hus⟩
      · rename_i hemp
        split at hr
        · rename_i hcond
          cases hr
          simp only [Bool.and_eq_true, beq_iff_eq, decide_eq_true_eq] at hcond
          obtain ⟨⟨⟨hfull, hs'⟩, hbound⟩, _⟩ := hcond
          subst hs'
          have hcl' : cap = (x1 :: xs).length := hfl hfull
          have hmp : 0 < m := by
            rcases Nat.eq_zero_or_pos m with h0 | h0
            · exact absurd (by simpa using List.eq_nil_of_length_eq_zero (hm.trans h0) : ys.isEmpty = true) hemp
            · exact h0
          obtain ⟨k1, k2, olds, k3, k4, k5, k6⟩ := elems_read (P := P) (ys := x1 :: xs) hs hcs' (by simp [elems]) hsz
          obtain ⟨ncap, g1, g2, g3⟩ := grow (ad := ad) (len := (x1 :: xs).length) (cap := cap) (olds := olds) (by omega) (by rw [← hm]; exact hbound) k4
          have hcur := RowR.append (M := M) (θ := θ) (rest := Builtin.zeroCells zv.cells (ncap - ((x1 :: xs).length + m))) k5 hnr k3 (by rw [hnl, hm]) k2 hys
          have hl2 : ((x1 :: xs) ++ ys).length = (x1 :: xs).length + m := by rw [List.length_append, hm]
          obtain ⟨q1, q2⟩ := row_new (w' := w.drew.alloc (.cells (olds.toArray ++ news.toArray ++ Builtin.zeroCells zv.cells (ncap - ((x1 :: xs).length + m))) e)) (cap := ncap) (b := some w.heap.size) (xs := (x1 :: xs) ++ ys) hs hsz (fun x hx => (List.mem_append.1 hx).elim (k2 x) (hys x)) (by omega) g2
            ⟨rfl, _, e, heap_drew _, gsize k3 g1, hcur⟩ rfl rfl rfl
          refine ⟨_, _, _, g3, q1, q2, Cell.rep ?_⟩
          have := Cell.row (M := M) (θ := θ.setR σ.length ((x1 :: xs) ++ ys).length (some w.heap.size, ncap, i.size)) i.size σ.length ((x1 :: xs) ++ ys).length 0 ((x1 :: xs) ++ ys).length false (some ⟨w.heap.size, 0, none⟩) ncap ncap (some w.heap.size) (Th.setR_self _ _ _) (by omega) (by omega) g2 (by simp) (by simp) (.inr ⟨_, rfl, by simp⟩)
          rw [hl2] at this ⊢
          rw [hm]
          exact this
        · cases hr
  · -- a row
    rename_i s' id gen off len lim
    obtain ⟨ad, cap, rfl⟩ := hus.row
    have hcs : Cell M θ (.row s' id gen off len lim) (.slice ad len cap) := hus
    have hcs' := hcs
    generalize hv : Value.slice ad len cap = u at hcs
    cases hcs with
    | row _ _ _ _ _ _ a0 cap0 cap1 b0 htr h1 hg hmx hb hcap ha =>
      cases hv
      split at hr
      · rename_i s2 xs hob
        obtain ⟨o1, o2, o3, o4, b, cap2, o5, o6, o7, o8⟩ := hs.ob _ _ hob
        split at hr
        · rename_i hcond
          simp only [Bool.and_eq_true, beq_iff_eq, decide_eq_true_eq] at hcond
          obtain ⟨⟨⟨hs', hgen⟩, hbound⟩, _⟩ := hcond
          subst hgen; subst hs'
          rw [o5] at htr
          simp only [Option.some.injEq, Prod.mk.injEq] at htr
          obtain ⟨rfl, rfl, hs2⟩ := htr
          subst hs2
          rw [hm] at hbound
          have hel : elems σ i.size (.row i.size id xs.length off len lim) = some ((xs.drop off).take len) := by simp [elems, hob]
          split at hr
          · -- no room behind it
            rename_i hlim
            subst hlim
            simp only [if_true] at hcap
            split at hr
            · rename_i hemp
              cases hr
              have h0 : m = 0 := by rw [← hm]; simpa using hemp
              exact ⟨_, w, θ, same (by omega) h0, Ext.refl _ _ _ _ _, hs, hus⟩
            · rename_i hemp
              cases hr
              have hmp : 0 < m := by
                rcases Nat.eq_zero_or_pos m with h0 | h0
                · exact absurd (by simpa using List.eq_nil_of_length_eq_zero (hm.trans h0) : ys.isEmpty = true) hemp
                · exact h0
              obtain ⟨k1, k2, olds, k3, k4, k5, k6⟩ := elems_read (P := P) hs hcs' hel hsz
              obtain ⟨ncap, g1, g2, g3⟩ := grow (ad := ad) (len := len) (cap := cap) (olds := olds) (by omega) hbound k4
              have hcur := RowR.append (M := M) (θ := θ) (rest := Builtin.zeroCells zv.cells (ncap - (len + m))) k5 hnr (by rw [k3, k1]) (by rw [hnl, hm]) k2 hys
              have hl2 : ((xs.drop off).take len ++ ys).length = len + m := by rw [List.length_append, hm, k1]
              obtain ⟨q1, q2⟩ := row_new (w' := w.drew.alloc (.cells (olds.toArray ++ news.toArray ++ Builtin.zeroCells zv.cells (ncap - (len + m))) e)) (cap := ncap) (b := some w.heap.size) (xs := (xs.drop off).take len ++ ys) hs hsz (fun x hx => (List.mem_append.1 hx).elim (k2 x) (hys x)) (by omega) g2
                ⟨rfl, _, e, heap_drew _, by have := gsize (os := (xs.drop off).take len) (olds := olds) (ncap := ncap) (by rw [k3, k1]) (by rw [k1]; exact g1); rw [k1] at this; exact this, hcur⟩ rfl rfl rfl
              refine ⟨_, _, _, g3, q1, q2, Cell.rep ?_⟩
              have := Cell.row (M := M) (θ := θ.setR σ.length ((xs.drop off).take len ++ ys).length (some w.heap.size, ncap, i.size)) i.size σ.length ((xs.drop off).take len ++ ys).length 0 ((xs.drop off).take len ++ ys).length false (some ⟨w.heap.size, 0, none⟩) ncap ncap (some w.heap.size) (Th.setR_self _ _ _) (by omega) (by omega) g2 (by simp) (by simp) (.inr ⟨_, rfl, by simp⟩)
              rw [hl2] at this ⊢
              rw [hm]
              exact this
          · rename_i hlim
            have hlim' : lim = false := by simpa using hlim
            subst hlim'
            simp only [Bool.false_eq_true, if_false] at hcap
            split at hr
            · -- the row may be written
              have inplace : ∀ (n' : Nat) (L : List AV), 0 < m → len + m ≤ cap → L = xs.take (off + len) ++ ys ++ xs.drop (off + len + m) → (xs.length < L.length ∨ xs.length = L.length) → n' = L.length → off + (len + m) ≤ n' →
                  ∃ v w' θ', (Builtin.append_ #[t, t'] ty #[.slice ad len cap, .slice xa m xc]).run P w = .ok v w' ∧ Ext0 w M θ σ w' M θ' (σ.set id (.row i.size L)) ∧ StR w' M θ' (σ.set id (.row i.size L)) ∧ Rep M θ' (.row i.size id n' off (len + m) false) v := by
                intro n' L hmp hroom hL hlen hn' hle
                rcases ha with ha | ⟨g, hb0, ha⟩
                · omega
                subst hb0
                subst ha
                obtain ⟨cur, e1, p1, p2, p3⟩ := o8
                have hLl : L.length ≤ cap2 := by rw [hL]; simp; omega
                have hb1 : (off + len) * i.size + news.length ≤ cur.size := by
                  rw [p2, hnl, ← Nat.add_mul]; exact Nat.mul_le_mul_right _ (by omega)
                have hst := run_storeCells_at P g (off * i.size + len * i.size) e1 news 0 cur w p1 (by rw [← Nat.add_mul]; simpa using hb1) hn1
                obtain ⟨r1, r2⟩ := row_splice (p := off + len) p3 hnr o4 hys (by omega) (by rw [hnl, hm]) hb1
                have hrun := append_room (P := P) (w := w) (w' := w.setRow g (cur.toList.take (off * i.size + len * i.size) ++ news ++ cur.toList.drop (off * i.size + len * i.size + news.length)).toArray) (ty := ty) (base := some ⟨g, off * i.size, none⟩) (sLen := len) (sCap := cap) (xc := xc) ht ht' hi (hfc w rfl) hroom
                  (fun ad' h => by cases h; rw [addr_add]; simpa using hst) (fun h => by cases h)
                have hown : OwnAt θ σ id g := by unfold OwnAt; rw [hob]; exact ⟨cap2, i.size, o5⟩
                obtain ⟨θ', t1, t2, t3, t4⟩ := row_grow (w' := w.setRow g (cur.toList.take (off * i.size + len * i.size) ++ news ++ cur.toList.drop (off * i.size + len * i.size + news.length)).toArray) (cap := cap2) (g := g) (sz := i.size) (ys := L) hs hob
                  (hlen.imp_right fun h => ⟨h, by rw [← h]; exact o5⟩) hsz (by rw [hL, ← hm]; exact r2) hLl o7 (.inl hown) (fun k _ hk => setRow_other w g k _ (fun e => hk (e ▸ hown)))
                  ⟨_, e1, setRow_heap w g cur _ e1 _ p1, by
                    simp only [List.size_toArray, List.length_append, List.length_take, List.length_drop, Array.length_toList]
                    rw [← Nat.add_mul] at *
                    omega, by rw [hL, ← hm, ← Nat.add_mul]; exact r1⟩ (by simp) rfl rfl rfl
                refine ⟨_, _, θ', hrun, t3, t4, Cell.rep ?_⟩
                subst hn'
                exact Cell.row i.size id L.length off (len + m) false _ cap cap2 (some g) t2 hle hLl o7 (by simp) (by simpa using hcap) (.inr ⟨g, rfl, rfl⟩)
              have regrow : ∀ (L : List AV), off = 0 → ¬ (len + m ≤ cap) → L = (xs.drop off).take len ++ ys → xs.length < L.length →
                  ∃ v w' θ', (Builtin.append_ #[t, t'] ty #[.slice ad len cap, .slice xa m xc]).run P w = .ok v w' ∧ Ext0 w M θ σ w' M θ' (σ.set id (.row i.size L)) ∧ StR w' M θ' (σ.set id (.row i.size L)) ∧ Rep M θ' (.row i.size id (len + m) 0 (len + m) false) v := by
                intro L hoff hroom hL hlen
                obtain ⟨k1, k2, olds, k3, k4, k5, k6⟩ := elems_read (P := P) hs hcs' hel hsz
                obtain ⟨ncap, g1, g2, g3⟩ := grow (ad := ad) (len := len) (cap := cap) (olds := olds) (by omega) hbound k4
                have hcur := RowR.append (M := M) (θ := θ) (rest := Builtin.zeroCells zv.cells (ncap - (len + m))) k5 hnr (by rw [k3, k1]) (by rw [hnl, hm]) k2 hys
                have hl2 : L.length = len + m := by rw [hL, List.length_append, hm, k1]
                obtain ⟨θ', t1, t2, t3, t4⟩ := row_grow (w' := w.drew.alloc (.cells (olds.toArray ++ news.toArray ++ Builtin.zeroCells zv.cells (ncap - (len + m))) e)) (cap := ncap) (g := w.heap.size) (sz := i.size) (ys := L) hs hob
                  (.inl hlen) hsz (by rw [hL]; exact fun x hx => (List.mem_append.1 hx).elim (k2 x) (hys x)) (by omega) g2 (.inr (Nat.le_refl _)) (fun k hk _ => by rw [heap_drew, Array.getElem?_push, if_neg (by omega)])
                  ⟨_, e, heap_new w.drew _, by have := gsize (os := (xs.drop off).take len) (olds := olds) (ncap := ncap) (by rw [k3, k1]) (by rw [k1]; exact g1); rw [k1] at this; exact this, by rw [hL]; exact hcur⟩ (by rw [heap_drew]; simp) rfl rfl rfl
                refine ⟨_, _, θ', g3, t3, t4, Cell.rep ?_⟩
                rw [hl2] at t2
                exact Cell.row i.size id (len + m) 0 (len + m) false _ ncap ncap (some w.heap.size) t2 (by omega) g1 g2 (by simp) (by simp) (.inr ⟨_, rfl, by simp⟩)
              split at hr
              · rename_i hfull
                simp only [Bool.and_eq_true, beq_iff_eq] at hfull
                obtain ⟨hoff, hlen⟩ := hfull
                subst hoff
                cases hr
                rw [hm]
                rcases Nat.eq_zero_or_pos m with h0 | h0
                · have hy0 : ys = [] := List.eq_nil_of_length_eq_zero (by omega)
                  subst hy0
                  rw [List.append_nil, set_same hob]
                  refine ⟨_, w, θ, same (by omega) h0, Ext.refl _ _ _ _ _, hs, ?_⟩
                  rw [h0, Nat.add_zero]
                  rw [hlen] at hus ⊢; exact hus
                · by_cases hroom : len + m ≤ cap
                  · have := inplace (len + m) (xs ++ ys) h0 hroom (by rw [hlen]; simp) (.inl (by simp; omega)) (by simp; omega) (by omega)
                    rw [hlen] at this ⊢; exact this
                  · have := regrow (xs ++ ys) rfl hroom (by rw [hlen]; simp) (by simp; omega)
                    rw [hlen] at this ⊢; exact this
              · split at hr
                · rename_i hin
                  rw [hm] at hin
                  cases hr
                  rw [hm]
                  rcases Nat.eq_zero_or_pos m with h0 | h0
                  · have hy0 : ys = [] := List.eq_nil_of_length_eq_zero (by omega)
                    subst hy0
                    have hL : xs.take (off + len) ++ [] ++ xs.drop (off + len + m) = xs := by rw [h0, Nat.add_zero, List.append_nil, List.take_append_drop]
                    rw [hL, set_same hob]
                    refine ⟨_, w, θ, same (by omega) h0, Ext.refl _ _ _ _ _, hs, ?_⟩
                    rw [h0, Nat.add_zero]; exact hus
                  · exact inplace xs.length _ h0 (by omega) rfl (.inr (by simp; omega)) (by simp; omega) (by omega)
                · rename_i hin
                  rw [hm] at hin
                  split at hr
                  · rename_i hoff
                    simp only [beq_iff_eq] at hoff
                    subst hoff
                    cases hr
                    rw [hm]
                    by_cases hroom : len + m ≤ cap
                    · exact inplace (len + m) _ (by omega) hroom (by rw [Nat.zero_add, List.drop_eq_nil_of_le (by omega)]; simp) (.inl (by simp; omega)) (by simp; omega) (by omega)
                    · exact regrow _ rfl hroom (by simp) (by simp; omega)
                  · cases hr
            · cases hr
        · cases hr
      · cases hr
  · cases hr

theorem op_append {base : Nat} {c : Call} {t t' : TypeId} {s x r : AV} {σ' : St} (hs : StR w M θ σ) (hf : FrR w M θ σ π env a.tmps) (hd : okDst env o.dst = true) (ho : o.op = .call c) (hc : c.callee = .builtin .append)
    (ht : c.argTypes.toList = [t, t']) (hx : lookVs env c.args.toList = some [s, x]) (hr : evalBuiltin P base .append [t, t'] σ [s, x] = some (r, σ')) : OpS P w M θ σ π o a env σ' (.val r) := by
  obtain ⟨y1, y2, h1, h2, h3⟩ := lookVs_two hx
  have hs1 := (lookV_sound hf h2).rep
  have hx1 := (lookV_sound hf h3).rep
  obtain ⟨ics, e0⟩ := builtin_run (P := P) (w := w) (a := a) ho hc
  have e1 := array_two ht
  have e2 := array_two h1
  rw [e1, e2] at e0
  simp only [evalBuiltin] at hr
  split at hr
  · rename_i e sz bytes x' g1 g2
    obtain ⟨hu, i, i1, i2, i3⟩ := elemT_spec g1
    obtain ⟨hu', _⟩ := elemT_spec (e := x'.1) (s := x'.2.1) (b := x'.2.2) g2
    split at hr
    · rename_i hz
      simp only [Bool.and_eq_true, decide_eq_true_eq] at hz
      obtain ⟨hz, hby⟩ := hz
      unfold zeroOk at hz
      split at hz
      · rename_i z hz0
        simp only [Bool.and_eq_true, beq_iff_eq, decide_eq_true_eq] at hz
        obtain ⟨i', zv, z1, z2, z3⟩ := zeroOf_spec hz0
        rw [i1] at z1; cases z1
        have hzs : zv.cells.size = sz := by rw [(ofV_sound z3 M θ).cells.1, hz.1]
        split at hr
        · rename_i ys hys
          obtain ⟨v, w', θ', q1, q2, q3, q4⟩ := append_sound (P := P) (ty := o.type) hs hu hu' i1 z2 i2 i3 hzs hz.2 hby hs1 hx1 hys hr
          exact .goV hf hd (by rw [e0]; simp [builtin, q1]) q2 q3 q4
        · cases hr
      · cases hz
    · cases hr
  · cases hr

end
end Go.Can
