/- Plain: the first error of a list of checks; nodes and edges in order; what both checks compute. -/
import Derived.Test.YtjmljgajhkbciaaGreatIfdsC7
import Derived.Test.YtjmljgajhkbciaaGreatIfdsC4
set_option linter.unusedSimpArgs false
set_option linter.unusedVariables false
namespace Go.Can
open Go Go.Proofs

/-- The first error among the places i, i+1, .. -/
def firstE (f : Nat → Int) : Nat → Nat → Int
  | 0, _ => 0
  | n + 1, i => if f i = 0 then firstE f n (i + 1) else f i

theorem firstE_congr {f g : Nat → Int} : ∀ {n i : Nat}, (∀ k, i ≤ k → k < i + n → f k = g k) → firstE f n i = firstE g n i
  | 0, _, _ => rfl
  | n + 1, i, h => by
    unfold firstE
    rw [h i (by omega) (by omega), firstE_congr (n := n) (i := i + 1) (fun k h1 h2 => h k (by omega) (by omega))]

theorem firstE_zero {f : Nat → Int} : ∀ {n i : Nat}, firstE f n i = 0 → ∀ k, i ≤ k → k < i + n → f k = 0
  | 0, _, _, k, h1, h2 => by omega
  | n + 1, i, h, k, h1, h2 => by
    unfold firstE at h
    split at h
    · rename_i h0
      rcases Nat.lt_or_eq_of_le h1 with h3 | h3
      · exact firstE_zero h k (by omega) (by omega)
      · rw [← h3]; exact h0
    · rename_i h0; exact absurd h h0

/-! Nodes. -/
abbrev ND := Int × Int × Int
abbrev ED := Int × Int × Int × Int
def nAt (ns : List ND) (i : Nat) : ND := ns.getD i (0, 0, 0)
def eAt (es : List ED) (i : Nat) : ED := es.getD i (0, 0, 0, 0)
def nodeAt (ns : List ND) (i : Nat) : Int := nodeErr (if i = 0 then none else some (nAt ns (i - 1))) (nAt ns i)

theorem scanN_first {ns : List ND} : ∀ (n i : Nat), i + n = ns.length → scanN (if i = 0 then none else some (nAt ns (i - 1))) (ns.drop i) = firstE (nodeAt ns) n i
  | 0, i, h => by rw [List.drop_eq_nil_of_le (by omega)]; rfl
  | n + 1, i, h => by
    have hlt : i < ns.length := by omega
    have hd : ns.drop i = nAt ns i :: ns.drop (i + 1) := by
      rw [List.drop_eq_getElem_cons hlt]; simp [nAt, hlt]
    have ih := scanN_first (ns := ns) n (i + 1) (by omega)
    rw [if_neg (by omega), Nat.add_sub_cancel] at ih
    rw [hd]
    unfold scanN firstE
    rw [ih]
    rfl

theorem scanN_eq {ns : List ND} : scanN none ns = firstE (nodeAt ns) ns.length 0 := by
  have := scanN_first (ns := ns) ns.length 0 (by omega)
  rw [if_pos rfl, List.drop_zero] at this
  exact this

/-- A node of a known kind, whose numbers fit. -/
def NodeOk (n : ND) : Prop := (n.2.1 = 1 ∨ n.2.1 = 2 ∨ n.2.1 = 3 ∨ n.2.1 = 4) ∧ (n.2.1 ≠ 2 → n.2.2 = -1)

theorem nodeErr_ok {p : Option ND} {n : ND} (h : nodeErr p n = 0) : NodeOk n ∧ ∀ q, p = some q → ltN q n = true := by
  unfold nodeErr at h
  have key : ∀ q, ¬ cmpN q n ≥ 0 → ltN q n = true := fun q hq => by
    rw [cmpN_ge] at hq
    cases e : ltN q n with
    | true => rfl
    | false => exact absurd e hq
  unfold NodeOk
  cases p with
  | none =>
    simp only at h
    refine ⟨?_, fun q hq => by cases hq⟩
    repeat' split at h
    all_goals first | omega | exact absurd h (by decide)
  | some q =>
    simp only at h
    have k := key q
    repeat' split at h
    all_goals first | exact absurd h (by decide) | skip
    all_goals refine ⟨by omega, fun q' hq' => ?_⟩
    all_goals cases hq'
    all_goals exact k (by assumption)

theorem ltN_irr {a : ND} : ltN a a = false := by unfold ltN; simp
theorem ltN_trans {a b c : ND} (h1 : ltN a b = true) (h2 : ltN b c = true) : ltN a c = true := by
  unfold ltN at *
  simp only [decide_eq_true_eq] at *
  omega

theorem scanN_ok : ∀ {l : List ND} {p : Option ND}, scanN p l = 0 → (∀ n ∈ l, NodeOk n ∧ ∀ q, p = some q → ltN q n = true) ∧ l.Pairwise (fun a b => a ≠ b)
  | [], _, _ => ⟨fun n h => by simp at h, List.Pairwise.nil⟩
  | n :: l, p, h => by
    unfold scanN at h
    split at h
    · rename_i h0
      obtain ⟨h1, h2⟩ := nodeErr_ok h0
      obtain ⟨h3, h4⟩ := scanN_ok h
      refine ⟨fun m hm => ?_, List.Pairwise.cons (fun m hm he => ?_) h4⟩
      · rcases List.mem_cons.1 hm with rfl | hm
        · exact ⟨h1, h2⟩
        · exact ⟨(h3 m hm).1, fun q hq => ltN_trans (h2 q hq) ((h3 m hm).2 n rfl)⟩
      · subst he
        have := (h3 n hm).2 n rfl
        rw [ltN_irr] at this
        cases this
    · rename_i h0; exact absurd h h0

def one? (l : List ND) (m : ND) : Nat := if m ∈ l then 1 else 0

theorem one?_cons {l : List ND} {n m : ND} (hn : n ∉ l) : one? (n :: l) m = (if n = m then 1 else 0) + one? l m := by
  unfold one?
  by_cases h : n = m
  · subst h; simp [hn]
  · have : ¬ m = n := fun e => h e.symm
    simp [h, this]

theorem cntN_three {f : Int} : ∀ {l : List ND}, (∀ n ∈ l, NodeOk n) → l.Pairwise (fun a b => a ≠ b) → cntN l f = one? l (f, 1, -1) + one? l (f, 3, -1) + one? l (f, 4, -1)
  | [], _, _ => by simp [cntN, one?]
  | n :: l, h1, h2 => by
    obtain ⟨h3, h4⟩ := List.pairwise_cons.1 h2
    have ih := cntN_three (f := f) (l := l) (fun m hm => h1 m (by simp [hm])) h4
    have hn : n ∉ l := fun hm => h3 n hm rfl
    rw [one?_cons hn, one?_cons hn, one?_cons hn]
    obtain ⟨k1, k2⟩ := h1 n (by simp)
    have hc : cntN (n :: l) f = (if n.1 = f ∧ n.2.1 ≠ 2 then 1 else 0) + cntN l f := by
      unfold cntN
      rw [List.filter_cons]
      by_cases a : n.1 = f
      · by_cases b : n.2.1 = 2
        · simp [a, b]
        · simp [a, b]; omega
      · simp [a]
    rw [hc, ih]
    obtain ⟨x, y, z⟩ := n
    simp only at k1 k2 ⊢
    simp only [Prod.mk.injEq]
    by_cases a : x = f
    · subst a
      by_cases b : y = 2
      · subst b; simp
      · have := k2 b
        subst this
        rcases k1 with rfl | rfl | rfl | rfl <;> simp <;> first | omega | exact absurd rfl b
    · simp [a]

theorem kindN_mem {f k : Int} (hk : k ≠ 2) : ∀ {l : List ND} {i : Nat}, (∀ n ∈ l, NodeOk n) → (0 ≤ kindN f k l i ↔ (f, k, -1) ∈ l)
  | [], _, _ => by simp [kindN]
  | n :: l, i, h => by
    have ih := kindN_mem hk (f := f) (l := l) (i := i + 1) (fun m hm => h m (by simp [hm]))
    unfold kindN
    obtain ⟨x, y, z⟩ := n
    obtain ⟨_, k2⟩ := h (x, y, z) (by simp)
    simp only at k2 ⊢
    split
    · rename_i hc
      obtain ⟨rfl, rfl⟩ := hc
      have := k2 hk
      subst this
      simp
    · rename_i hc
      rw [ih]
      simp only [List.mem_cons, Prod.mk.injEq]
      constructor
      · exact fun h => .inr h
      · rintro (⟨rfl, rfl, _⟩ | h)
        · exact absurd ⟨rfl, rfl⟩ hc
        · exact h

/-- The reference's question to a node's function. -/
def has3 (ns : List ND) (f : Int) : Bool := decide (0 ≤ kindN f 1 ns 0) && decide (0 ≤ kindN f 3 ns 0) && decide (0 ≤ kindN f 4 ns 0)

theorem errNodes_eq {ns : List ND} : errNodes ns = if firstE (nodeAt ns) ns.length 0 = 0 then (if ns.all (fun n => has3 ns n.1) = true then 0 else 1) else firstE (nodeAt ns) ns.length 0 := by
  unfold errNodes
  rw [scanN_eq]
  split
  · rename_i h
    rw [← scanN_eq] at h
    obtain ⟨h1, h2⟩ := scanN_ok h
    have h1' : ∀ n ∈ ns, NodeOk n := fun n hn => (h1 n hn).1
    have : (ns.all fun n => cntN ns n.1 == 3) = ns.all (fun n => has3 ns n.1) := by
      congr 1
      funext n
      have e1 := cntN_three (f := n.1) h1' h2
      have m1 := kindN_mem (f := n.1) (k := 1) (by decide) (i := 0) h1'
      have m3 := kindN_mem (f := n.1) (k := 3) (by decide) (i := 0) h1'
      have m4 := kindN_mem (f := n.1) (k := 4) (by decide) (i := 0) h1'
      unfold has3
      rw [Bool.eq_iff_iff, beq_iff_eq, e1]
      simp only [Bool.and_eq_true, decide_eq_true_eq, m1, m3, m4]
      unfold one?
      by_cases a : (n.1, 1, -1) ∈ ns <;> by_cases b : (n.1, 3, -1) ∈ ns <;> by_cases c : (n.1, 4, -1) ∈ ns <;> simp [a, b, c]
    rw [this]
  · rfl

/-! Edges. -/
def prevE (es : List ED) (i : Nat) : Option ED := if i = 0 then none else some (eAt es (i - 1))

def ordBad : Option ED → ED → Bool
  | none, _ => false
  | some q, e => !ltE q e

/-- The error of an edge behind another one. -/
def edgeErr (ns : List ND) (en : Int → Int → Bool) (p : Option ED) (e : ED) : Int :=
  if e.1 < 0 ∨ e.1 ≥ ns.length ∨ e.2.1 < 0 ∨ e.2.1 ≥ ns.length then 4
  else if e.2.2.1 < 1 ∨ e.2.2.1 > 5 then 12
  else if (if e.2.2.1 = 1 ∨ e.2.2.1 = 5 then decide (e.2.2.2 ≠ -1) else decide (e.2.2.2 < 0 ∨ e.2.2.2 ≥ ns.length)) = true then 4
  else if ordBad p e = true then 13
  else if fitsB ns en e = true then 0 else 20
def errAt (ns : List ND) (es : List ED) (en : Int → Int → Bool) (i : Nat) : Int := edgeErr ns en (prevE es i) (eAt es i)

def anyC (ns : List ND) (es : List ED) (c f : Int) : Bool := es.any (callB ns c f)

theorem edgeErr_cases {ns : List ND} {en : Int → Int → Bool} {p : Option ED} {e : ED} (h : edgeErr ns en p e = 0 ∨ edgeErr ns en p e = 20) : EdgeOk ns e ∧ (∀ q, p = some q → ltE q e = true) ∧ edgeErr ns en p e = if fitsB ns en e = true then 0 else 20 := by
  unfold edgeErr at h ⊢
  by_cases a : e.1 < 0 ∨ e.1 ≥ ns.length ∨ e.2.1 < 0 ∨ e.2.1 ≥ ns.length
  · rw [if_pos a] at h; exact absurd h (by decide)
  rw [if_neg a] at h ⊢
  by_cases b : e.2.2.1 < 1 ∨ e.2.2.1 > 5
  · rw [if_pos b] at h; exact absurd h (by decide)
  rw [if_neg b] at h ⊢
  by_cases c : (if e.2.2.1 = 1 ∨ e.2.2.1 = 5 then decide (e.2.2.2 ≠ -1) else decide (e.2.2.2 < 0 ∨ e.2.2.2 ≥ ns.length)) = true
  · rw [if_pos c] at h; exact absurd h (by decide)
  rw [if_neg c] at h ⊢
  by_cases d : ordBad p e = true
  · rw [if_pos d] at h; exact absurd h (by decide)
  rw [if_neg d] at h ⊢
  refine ⟨⟨by omega, by omega, by omega, fun k => ?_⟩, fun q hq => ?_, rfl⟩
  · rw [if_neg k] at c
    simp only [decide_eq_true_eq] at c
    omega
  · subst hq
    simpa [ordBad] using d

theorem ltE_irr {a : ED} : ltE a a = false := by unfold ltE; simp
theorem ltE_trans {a b c : ED} (h1 : ltE a b = true) (h2 : ltE b c = true) : ltE a c = true := by
  unfold ltE at *
  simp only [decide_eq_true_eq] at *
  omega
theorem ltE_fst {a b : ED} (h : ltE a b = true) : a.1 ≤ b.1 := by
  unfold ltE at h
  simp only [decide_eq_true_eq] at h
  omega

/-- The numbers of an edge are in order. -/
structure EdgeNum (ns : List ND) (e : ED) : Prop where
  ok : EdgeOk ns e
  call : (e.2.2.1 = 1 ∨ e.2.2.1 = 5) → e.2.2.2 = -1

theorem edgeErr_range {ns : List ND} {en : Int → Int → Bool} {p : Option ED} {e : ED} (h : e.1 < 0 ∨ (ns.length : Int) ≤ e.1 ∨ e.2.1 < 0 ∨ (ns.length : Int) ≤ e.2.1) : edgeErr ns en p e = 4 := by
  unfold edgeErr
  rw [if_pos (by omega)]
theorem edgeErr_kind {ns : List ND} {en : Int → Int → Bool} {p : Option ED} {e : ED} (h0 : ¬ (e.1 < 0 ∨ (ns.length : Int) ≤ e.1 ∨ e.2.1 < 0 ∨ (ns.length : Int) ≤ e.2.1)) (h : e.2.2.1 < 1 ∨ 5 < e.2.2.1) : edgeErr ns en p e = 12 := by
  unfold edgeErr
  rw [if_neg (by omega), if_pos (by omega)]
theorem edgeErr_within {ns : List ND} {en : Int → Int → Bool} {p : Option ED} {e : ED} (h0 : ¬ (e.1 < 0 ∨ (ns.length : Int) ≤ e.1 ∨ e.2.1 < 0 ∨ (ns.length : Int) ≤ e.2.1)) (h : e.2.2.1 = 1 ∨ e.2.2.1 = 5) (hc : ¬ e.2.2.2 = -1) : edgeErr ns en p e = 4 := by
  unfold edgeErr
  rw [if_neg (by omega), if_neg (by omega), if_pos h, if_pos (by simpa using hc)]
theorem edgeErr_call {ns : List ND} {en : Int → Int → Bool} {p : Option ED} {e : ED} (h0 : ¬ (e.1 < 0 ∨ (ns.length : Int) ≤ e.1 ∨ e.2.1 < 0 ∨ (ns.length : Int) ≤ e.2.1)) (h1 : ¬ (e.2.2.1 < 1 ∨ 5 < e.2.2.1)) (h : ¬ (e.2.2.1 = 1 ∨ e.2.2.1 = 5)) (hc : e.2.2.2 < 0 ∨ (ns.length : Int) ≤ e.2.2.2) : edgeErr ns en p e = 4 := by
  unfold edgeErr
  rw [if_neg (by omega), if_neg (by omega), if_neg h, if_pos (by simp only [decide_eq_true_eq]; omega)]
theorem edgeErr_num {ns : List ND} {en : Int → Int → Bool} {p : Option ED} {e : ED} (h : EdgeNum ns e) : edgeErr ns en p e = if ordBad p e = true then 13 else if fitsB ns en e = true then 0 else 20 := by
  obtain ⟨⟨h1, h2, h3, h4⟩, h5⟩ := h
  unfold edgeErr
  rw [if_neg (by omega), if_neg (by omega)]
  by_cases k : e.2.2.1 = 1 ∨ e.2.2.1 = 5
  · have := h5 k
    rw [if_pos k, if_neg (by simp [this])]
  · have := h4 k
    rw [if_neg k, if_neg (by simp only [decide_eq_true_eq]; omega)]
theorem edgeErr_first {ns : List ND} {en : Int → Int → Bool} {e : ED} (h : EdgeNum ns e) : edgeErr ns en none e = if fitsB ns en e = true then 0 else 20 := by
  rw [edgeErr_num h]; simp [ordBad]
theorem edgeErr_next {ns : List ND} {en : Int → Int → Bool} {e q : ED} (h : EdgeNum ns e) : edgeErr ns en (some q) e = if ltE q e = true then (if fitsB ns en e = true then 0 else 20) else 13 := by
  rw [edgeErr_num h]
  have hb : ordBad (some q) e = !ltE q e := rfl
  rw [hb]
  cases ltE q e <;> simp

/-- Edges that follow one another ascend. -/
theorem srt_of {es : List ED} (h : ∀ k, 0 < k → k < es.length → ltE (eAt es (k - 1)) (eAt es k) = true) : Srt es := by
  unfold Srt
  rw [List.pairwise_iff_getElem]
  have key : ∀ d i, i + d + 1 < es.length → (eAt es i).1 ≤ (eAt es (i + d + 1)).1 := by
    intro d
    induction d with
    | zero => intro i hi; exact ltE_fst (by simpa using h (i + 1) (by omega) (by omega))
    | succ d ih =>
      intro i hi
      have h1 := ih i (by omega)
      have h2 := ltE_fst (h (i + (d + 1) + 1) (by omega) hi)
      have e : i + (d + 1) + 1 - 1 = i + d + 1 := by omega
      rw [e] at h2
      omega
  intro i j hi hj hij
  have := key (j - i - 1) i (by omega)
  have e : i + (j - i - 1) + 1 = j := by omega
  rw [e] at this
  simpa [eAt, hi, hj] using this

theorem fitsB_mono {ns : List ND} {en en' : Int → Int → Bool} {e : ED} (hm : ∀ c f, en c f = true → en' c f = true) (h : fitsB ns en e = true) : fitsB ns en' e = true := by
  unfold fitsB at *
  split
  · rename_i h1; rw [if_pos h1] at h; exact h
  · rename_i h1
    rw [if_neg h1] at h
    split
    · rename_i h2; rw [if_pos h2] at h; exact h
    · rename_i h2
      rw [if_neg h2] at h
      rw [Bool.and_eq_true] at h ⊢
      exact ⟨h.1, hm _ _ h.2⟩
theorem fitsB_call {ns : List ND} {en en' : Int → Int → Bool} {e : ED} (hk : e.2.2.1 = 2) : fitsB ns en e = fitsB ns en' e := by
  unfold fitsB
  rw [if_neg (by omega), if_pos hk, if_neg (by omega), if_pos hk]

/-- The answer for an edge among the edges up to it, put right by all edges, is the answer among all edges. -/
theorem err_fix {ns : List ND} {en en' : Int → Int → Bool} {p : Option ED} {e : ED} (hm : ∀ c f, en c f = true → en' c f = true) :
    (if edgeErr ns en p e = 20 ∧ e.2.2.1 ≠ 2 ∧ fitsB ns en' e = true then 0 else edgeErr ns en p e) = edgeErr ns en' p e := by
  by_cases h : edgeErr ns en p e = 0 ∨ edgeErr ns en p e = 20
  · obtain ⟨h1, h2, h3⟩ := edgeErr_cases h
    have h4 : edgeErr ns en' p e = if fitsB ns en' e = true then 0 else 20 := by
      unfold edgeErr at h ⊢
      by_cases a : e.1 < 0 ∨ e.1 ≥ ns.length ∨ e.2.1 < 0 ∨ e.2.1 ≥ ns.length
      · rw [if_pos a] at h; exact absurd h (by decide)
      rw [if_neg a] at h ⊢
      by_cases b : e.2.2.1 < 1 ∨ e.2.2.1 > 5
      · rw [if_pos b] at h; exact absurd h (by decide)
      rw [if_neg b] at h ⊢
      by_cases c : (if e.2.2.1 = 1 ∨ e.2.2.1 = 5 then decide (e.2.2.2 ≠ -1) else decide (e.2.2.2 < 0 ∨ e.2.2.2 ≥ ns.length)) = true
      · rw [if_pos c] at h; exact absurd h (by decide)
      rw [if_neg c] at h ⊢
      by_cases d : ordBad p e = true
      · rw [if_pos d] at h; exact absurd h (by decide)
      rw [if_neg d]
    rw [h3, h4]
    by_cases f : fitsB ns en e = true
    · rw [if_pos f, if_pos (fitsB_mono hm f), if_neg (by omega)]
    · rw [if_neg f]
      by_cases k : e.2.2.1 = 2
      · rw [fitsB_call (en' := en) k, if_neg f, if_neg (by omega)]
      · by_cases g : fitsB ns en' e = true
        · rw [if_pos g, if_pos ⟨rfl, k, g⟩]
        · rw [if_neg g, if_neg (fun h => g h.2.2)]
  · rw [if_neg (fun k => h (.inr k.1))]
    unfold edgeErr at h ⊢
    by_cases a : e.1 < 0 ∨ e.1 ≥ ns.length ∨ e.2.1 < 0 ∨ e.2.1 ≥ ns.length
    · rw [if_pos a, if_pos a]
    rw [if_neg a] at h ⊢
    rw [if_neg a]
    by_cases b : e.2.2.1 < 1 ∨ e.2.2.1 > 5
    · rw [if_pos b, if_pos b]
    rw [if_neg b] at h ⊢
    rw [if_neg b]
    by_cases c : (if e.2.2.1 = 1 ∨ e.2.2.1 = 5 then decide (e.2.2.2 ≠ -1) else decide (e.2.2.2 < 0 ∨ e.2.2.2 ≥ ns.length)) = true
    · rw [if_pos c, if_pos c]
    rw [if_neg c] at h ⊢
    rw [if_neg c]
    by_cases d : ordBad p e = true
    · rw [if_pos d, if_pos d]
    rw [if_neg d] at h
    exfalso
    apply h
    by_cases f : fitsB ns en e = true
    · rw [if_pos f]; exact .inl rfl
    · rw [if_neg f]; exact .inr rfl

/-! Flow functions. -/
abbrev PD := Int × Int
def pAt (l : List PD) (i : Nat) : PD := l.getD i (0, 0)
def pairErr (l : List PD) (n : Int) (i : Nat) : Int :=
  if inR (pAt l i) n = false then 4 else if (decide (0 < i) && !ltP (pAt l (i - 1)) (pAt l i)) = true then 13 else 0
def flowErr (l : List PD) (n : Int) : Int :=
  if ¬ (1 ≤ n ∧ n ≤ 1024) then 4 else if l.length > 8192 then 3
  else if firstE (pairErr l n) l.length 0 = 0 then (if l.any (fun p => decide (p = (0, 0))) = true then 0 else 1) else firstE (pairErr l n) l.length 0

theorem ltP_trans {a b c : PD} (h1 : ltP a b = true) (h2 : ltP b c = true) : ltP a c = true := by
  unfold ltP at *
  simp only [decide_eq_true_eq] at *
  omega

/-- In a valid flow function the pair (0, 0) can only be the first one. -/
theorem zero_first {l : List PD} {n : Int} (h : firstE (pairErr l n) l.length 0 = 0) : l.any (fun p => decide (p = (0, 0))) = (!decide (l.length = 0) && decide (pAt l 0 = (0, 0))) := by
  have hz := firstE_zero h
  have h1 : ∀ k, k < l.length → inR (pAt l k) n = true ∧ (0 < k → ltP (pAt l (k - 1)) (pAt l k) = true) := fun k hk => by
    have := hz k (by omega) (by omega)
    unfold pairErr at this
    cases a : inR (pAt l k) n with
    | false => rw [if_pos a] at this; exact absurd this (by decide)
    | true =>
      rw [if_neg (by rw [a]; decide)] at this
      refine ⟨rfl, fun hk0 => ?_⟩
      cases b : ltP (pAt l (k - 1)) (pAt l k) with
      | true => rfl
      | false => rw [if_pos (by simp [b, hk0])] at this; exact absurd this (by decide)
  have h2 : ∀ d, d + 1 < l.length → ltP (pAt l 0) (pAt l (d + 1)) = true := by
    intro d
    induction d with
    | zero => intro hd; exact (h1 1 hd).2 (by omega)
    | succ d ih => intro hd; exact ltP_trans (ih (by omega)) (by simpa using (h1 (d + 1 + 1) hd).2 (by omega))
  rw [Bool.eq_iff_iff, List.any_eq_true]
  constructor
  · rintro ⟨p, hp, he⟩
    rw [decide_eq_true_eq] at he
    subst he
    obtain ⟨k, hk, he⟩ := List.getElem_of_mem hp
    have hl : ¬ l.length = 0 := by omega
    have hk' : pAt l k = (0, 0) := by simp [pAt, hk, he]
    cases k with
    | zero => simp [hl, hk']
    | succ k =>
      have a := h2 k hk
      have b := (h1 0 (by omega)).1
      rw [hk'] at a
      unfold ltP at a
      unfold inR at b
      simp only [decide_eq_true_eq] at a b
      omega
  · intro h
    simp only [Bool.and_eq_true, Bool.not_eq_true', decide_eq_false_iff_not, decide_eq_true_eq] at h
    have hl : 0 < l.length := by omega
    refine ⟨l[0], List.getElem_mem hl, ?_⟩
    have := h.2
    unfold pAt at this
    simp [hl] at this
    simp [this]

/-! The whole. -/
def superErr (ns : List ND) (es : List ED) (m : Int) : Int :=
  if (ns.length : Int) > 8192 ∨ (es.length : Int) > 32768 then 3
  else if errNodes ns ≠ 0 then errNodes ns
  else if m < 0 ∨ m ≥ ns.length ∨ (nd ns m).2.1 ≠ 1 then 14
  else firstE (errAt ns es (anyC ns es)) es.length 0

def seedErr (n facts : Int) (l : List PD) (i : Nat) : Int :=
  if (pAt l i).1 < 0 ∨ (pAt l i).1 ≥ n ∨ (pAt l i).2 < 1 ∨ (pAt l i).2 ≥ facts then 4
  else if (decide (0 < i) && !ltP (pAt l (i - 1)) (pAt l i)) = true then 13 else 0

def checkErr (ns : List ND) (es : List ED) (m facts : Int) (fl : List (List PD)) (sd : List PD) : Int :=
  if superErr ns es m ≠ 0 then superErr ns es m
  else if facts < 1 ∨ facts > 1024 then 4
  else if (fl.length : Int) ≠ es.length then 20
  else if firstE (fun i => flowErr (fl.getD i []) facts) fl.length 0 ≠ 0 then firstE (fun i => flowErr (fl.getD i []) facts) fl.length 0
  else firstE (seedErr ns.length facts sd) sd.length 0

end Go.Can
