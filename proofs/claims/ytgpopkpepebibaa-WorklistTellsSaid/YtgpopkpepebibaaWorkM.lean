/- Plain laws of worklists: what Check, Push, Pop and Least come to. -/
import Derived.Test.YtgpopkpepebibaaWorkL
set_option linter.unusedSimpArgs false
set_option linter.unusedVariables false
namespace Go.Can
open Go Go.Proofs

/-- 'a' may stand ahead of 'b'. -/
def Ok2 (rank : List Int) (a b : Int) : Prop := bef rank b a = false

theorem Ok2.trans {rank : List Int} {a b c : Int} (h : Ok2 rank a b) (k : Ok2 rank b c) : Ok2 rank a c := by
  simp only [Ok2, bef, Bool.or_eq_false_iff, Bool.and_eq_false_iff, decide_eq_false_iff_not] at *
  omega

structure GoodL (rank l : List Int) : Prop where
  fit : ∀ y ∈ l, fitB rank y = true
  nod : l.Nodup
  srt : (rank.length : Int) > 0 → l.Pairwise (Ok2 rank)

theorem last_of {pre : List Int} (h : (pre.length : Int) > 0) : ∃ ini, pre = ini ++ [pre.getD (pre.length - 1) 0] := by
  have hne : pre ≠ [] := by intro e; rw [e] at h; simp at h
  refine ⟨pre.dropLast, ?_⟩
  have e : pre.getD (pre.length - 1) 0 = pre.getLast hne := by
    rw [List.getLast_eq_getElem]
    have : pre.length - 1 < pre.length := by omega
    simp [this]
  rw [e, List.dropLast_concat_getLast]

theorem chkL_good {rank : List Int} : ∀ {l pre : List Int}, chkL rank pre l = 0 → GoodL rank pre → GoodL rank (pre ++ l)
  | [], pre, _, g => by simpa using g
  | x :: xs, pre, h, g => by
    unfold chkL at h
    split at h
    · rename_i hx
      split at h
      · cases h
      · rename_i hm
        split at h
        · cases h
        · rename_i hc
          have := chkL_good h (pre := pre ++ [x]) ⟨fun y hy => by
              rcases List.mem_append.1 hy with h | h
              · exact g.fit y h
              · simp at h; rw [h]; exact hx, by
              have g0 : pre.Pairwise (· ≠ ·) := g.nod
              show (pre ++ [x]).Pairwise (· ≠ ·)
              refine List.pairwise_append.2 ⟨g0, by simp, fun a ha b hb => ?_⟩
              simp at hb; rw [hb]; rintro rfl; exact hm ha, fun h0 => by
              refine List.pairwise_append.2 ⟨g.srt h0, by simp, fun a ha b hb => ?_⟩
              simp at hb; subst hb
              have hp : (pre.length : Int) > 0 := by
                have := List.length_pos_of_mem ha; omega
              have hl : Ok2 rank (pre.getD (pre.length - 1) 0) b := by
                show bef rank b _ = false
                cases hb : bef rank b (pre.getD (pre.length - 1) 0) with
                | false => rfl
                | true => exact absurd ⟨h0, hp, hb⟩ hc
              obtain ⟨ini, he⟩ := last_of hp
              generalize pre.getD (pre.length - 1) 0 = z at *
              have gs := g.srt h0
              rw [he] at ha gs
              rcases List.mem_append.1 ha with h | h
              · exact ((List.pairwise_append.1 gs).2.2 a h z (by simp)).trans hl
              · simp at h; rw [h]; exact hl⟩
          simpa using this
    · cases h

theorem chkL_of {rank : List Int} : ∀ {l pre : List Int}, GoodL rank (pre ++ l) → chkL rank pre l = 0
  | [], pre, _ => rfl
  | x :: xs, pre, g => by
    unfold chkL
    rw [if_pos (g.fit x (by simp))]
    have gn : (pre ++ x :: xs).Pairwise (· ≠ ·) := g.nod
    rw [if_neg (fun h => (List.pairwise_append.1 gn).2.2 x h x (by simp) rfl)]
    rw [if_neg, chkL_of (by simpa using g)]
    rintro ⟨h0, hp, hb⟩
    obtain ⟨ini, he⟩ := last_of hp
    have gs := g.srt h0
    have : pre.getD (pre.length - 1) 0 ∈ pre := by
      generalize pre.getD (pre.length - 1) 0 = z at he
      rw [he]
      simp
    have h2 := (List.pairwise_append.1 gs).2.2 _ this x (by simp)
    unfold Ok2 at h2
    rw [hb] at h2; cases h2

theorem chkQ_iff {rank items : List Int} : chkQ rank items = 0 ↔ rank.length ≤ 8192 ∧ items.length ≤ 8192 ∧ GoodL rank items := by
  unfold chkQ
  split
  · constructor
    · intro h; cases h
    · intro h; omega
  · constructor
    · intro h
      exact ⟨by omega, by omega, by simpa using chkL_good h (pre := []) ⟨fun y hy => (List.not_mem_nil hy).elim, List.nodup_nil, fun _ => List.Pairwise.nil⟩⟩
    · intro h
      exact chkL_of (by simpa using h.2.2)

theorem takeWhile_all {l : List Int} {p : Int → Bool} (h : ∀ y ∈ l, p y = true) : l.takeWhile p = l ∧ l.dropWhile p = [] := by
  induction l with
  | nil => exact ⟨rfl, rfl⟩
  | cons a l ih =>
    have := ih fun y hy => h y (by simp [hy])
    simp [List.takeWhile_cons, List.dropWhile_cons, h a (by simp), this.1, this.2]

theorem insL_plain {rank items : List Int} {x : Int} (h : ¬ (rank.length : Int) > 0) : insL rank items x = items ++ [x] := by
  have hz : (rank.length : Int) = 0 := by omega
  unfold insL
  have := takeWhile_all (l := items) (p := ahead rank x) (fun y _ => by unfold ahead; rw [decide_eq_true hz]; rfl)
  rw [this.1, this.2]

theorem insL_mem {rank items : List Int} {x y : Int} : y ∈ insL rank items x ↔ y = x ∨ y ∈ items := by
  unfold insL
  have : items.takeWhile (ahead rank x) ++ items.dropWhile (ahead rank x) = items := List.takeWhile_append_dropWhile
  have key : y ∈ items ↔ y ∈ items.takeWhile (ahead rank x) ∨ y ∈ items.dropWhile (ahead rank x) := by
    rw [← List.mem_append, this]
  rw [key, List.mem_append, List.mem_cons]
  constructor
  · rintro (h | h | h)
    · exact .inr (.inl h)
    · exact .inl h
    · exact .inr (.inr h)
  · rintro (h | h | h)
    · exact .inr (.inl h)
    · exact .inl h
    · exact .inr (.inr h)

theorem insL_len {rank items : List Int} {x : Int} : (insL rank items x).length = items.length + 1 := by
  unfold insL
  have : (items.takeWhile (ahead rank x)).length + (items.dropWhile (ahead rank x)).length = items.length := by rw [← List.length_append, List.takeWhile_append_dropWhile]
  simp; omega

theorem dropWhile_srt {rank : List Int} {x : Int} (h0 : (rank.length : Int) > 0) : ∀ {l : List Int}, l.Pairwise (Ok2 rank) → ∀ y ∈ l.dropWhile (ahead rank x), bef rank y x = false
  | [], _, y, hy => by simp at hy
  | a :: l, h, y, hy => by
    rw [List.dropWhile_cons] at hy
    split at hy
    · exact dropWhile_srt h0 (List.pairwise_cons.1 h).2 y hy
    · rename_i ha
      have hne : ¬ ((rank.length : Int) = 0) := by omega
      have ha' : bef rank a x = false := by
        simp only [ahead, hne, decide_false, Bool.false_or] at ha
        simpa using ha
      rcases List.mem_cons.1 hy with rfl | hy
      · exact ha'
      · have h1 := (List.pairwise_cons.1 h).1 y hy
        have h2 : Ok2 rank x a := ha'
        exact h2.trans h1

theorem insL_good {rank items : List Int} {x : Int} (g : GoodL rank items) (hx : fitB rank x = true) (hn : x ∉ items) : GoodL rank (insL rank items x) := by
  have e : items.takeWhile (ahead rank x) ++ items.dropWhile (ahead rank x) = items := List.takeWhile_append_dropWhile
  have mt : ∀ y ∈ items.takeWhile (ahead rank x), y ∈ items := fun y hy => by rw [← e]; exact List.mem_append_left _ hy
  have md : ∀ y ∈ items.dropWhile (ahead rank x), y ∈ items := fun y hy => by rw [← e]; exact List.mem_append_right _ hy
  refine ⟨fun y hy => ?_, ?_, fun h0 => ?_⟩
  · rcases insL_mem.1 hy with rfl | h
    · exact hx
    · exact g.fit y h
  · have gn : items.Pairwise (· ≠ ·) := g.nod
    show (insL rank items x).Pairwise (· ≠ ·)
    unfold insL
    rw [← e] at gn
    obtain ⟨p1, p2, p3⟩ := List.pairwise_append.1 gn
    refine List.pairwise_append.2 ⟨p1, List.pairwise_cons.2 ⟨fun a ha h => hn (h ▸ md a ha), p2⟩, fun a ha b hb => ?_⟩
    rcases List.mem_cons.1 hb with rfl | hb
    · intro h; exact hn (h ▸ mt a ha)
    · exact p3 a ha b hb
  · have gs := g.srt h0
    have hd := dropWhile_srt (x := x) h0 gs
    have ht : ∀ y ∈ items.takeWhile (ahead rank x), bef rank y x = true := fun y hy => by
      have hne : ¬ ((rank.length : Int) = 0) := by omega
      have : ahead rank x y = true := by
        have := List.all_takeWhile (p := ahead rank x) (l := items)
        exact List.all_eq_true.1 this y hy
      simpa only [ahead, hne, decide_false, Bool.false_or] using this
    unfold insL
    rw [← e] at gs
    obtain ⟨p1, p2, p3⟩ := List.pairwise_append.1 gs
    refine List.pairwise_append.2 ⟨p1, List.pairwise_cons.2 ⟨fun a ha => hd a ha, p2⟩, fun a ha b hb => ?_⟩
    rcases List.mem_cons.1 hb with rfl | hb
    · exact bef_asymm (ht a ha)
    · exact p3 a ha b hb

theorem GoodL.tail {rank : List Int} {x : Int} {l : List Int} (g : GoodL rank (x :: l)) : GoodL rank l ∧ x ∉ l :=
  ⟨⟨fun y hy => g.fit y (by simp [hy]), (List.nodup_cons.1 g.nod).2, fun h0 => (List.pairwise_cons.1 (g.srt h0)).2⟩, (List.nodup_cons.1 g.nod).1⟩

/-- What Push leaves can be pushed to. -/
theorem push_good {rank items : List Int} {x : Int} (h : (pushQ rank items x).2.2 = 0) : chkQ rank items = 0 ∧ fitB rank x = true ∧ (pushQ rank items x).1 = rank ∧
    ((x ∈ items ∧ (pushQ rank items x).2.1 = items) ∨ (x ∉ items ∧ items.length < 8192 ∧ (pushQ rank items x).2.1 = insL rank items x)) := by
  unfold pushQ at h ⊢
  split at h
  · rename_i h1
    split at h
    · rename_i h2
      refine ⟨h1, h2, ?_⟩
      rw [if_pos h1, if_pos h2]
      split at h
      · rename_i h3
        rw [if_pos h3]
        exact ⟨rfl, .inl ⟨h3, rfl⟩⟩
      · rename_i h3
        rw [if_neg h3]
        split at h
        · cases h
        · rename_i h4
          rw [if_neg h4]
          exact ⟨rfl, .inr ⟨h3, by omega, rfl⟩⟩
    · cases h
  · rename_i h1
    exact absurd h h1

theorem push_of {rank items : List Int} {x : Int} (g : chkQ rank items = 0) (hx : fitB rank x = true) (hl : items.length < 8192) : pushQ rank items x = (rank, if x ∈ items then items else insL rank items x, 0) := by
  unfold pushQ
  rw [if_pos g, if_pos hx]
  split
  · rfl
  · rw [if_neg (by omega)]

theorem push_chk {rank items : List Int} {x : Int} (g : chkQ rank items = 0) (hx : fitB rank x = true) (hl : items.length < 8192) : chkQ rank (if x ∈ items then items else insL rank items x) = 0 := by
  split
  · exact g
  · rename_i hn
    obtain ⟨g1, g2, g3⟩ := chkQ_iff.1 g
    exact chkQ_iff.2 ⟨g1, by rw [insL_len]; omega, insL_good g3 hx hn⟩

theorem wo_len {x : Int} {l : List Int} : (wo x l).length ≤ l.length ∧ ((wo x l).length = l.length ↔ x ∉ l) := by
  induction l with
  | nil => simp [wo]
  | cons a l ih =>
    by_cases h : a = x
    · have e : wo x (a :: l) = wo x l := by simp [wo, h]
      rw [e]
      refine ⟨by simp; omega, ⟨fun k => ?_, fun k => ?_⟩⟩
      · simp at k; omega
      · simp [h] at k
    · have e : wo x (a :: l) = a :: wo x l := by simp [wo, h]
      have hh : ¬ x = a := fun k => h k.symm
      rw [e]
      simp only [List.length_cons, List.mem_cons, hh, false_or, Nat.add_right_cancel_iff]
      exact ⟨by omega, ih.2⟩

/-- 'Least' is the one that stands ahead of all. -/
theorem leastF_mem {rank : List Int} : ∀ {l : List Int} {x : Int}, leastF rank x l ∈ x :: l
  | [], x => by simp [leastF]
  | y :: l, x => by
    unfold leastF
    split
    · have := leastF_mem (rank := rank) (l := l) (x := y)
      exact List.mem_cons_of_mem _ this
    · have := leastF_mem (rank := rank) (l := l) (x := x)
      rcases List.mem_cons.1 this with h | h
      · rw [h]; simp
      · simp [h]

theorem leastF_le {rank : List Int} (h0 : (rank.length : Int) > 0) : ∀ {l : List Int} {x : Int}, ∀ y ∈ x :: l, Ok2 rank (leastF rank x l) y
  | [], x, y, hy => by
    simp at hy; subst hy
    simp [Ok2, leastF, bef]
  | z :: l, x, y, hy => by
    unfold leastF
    split
    · rename_i hc
      have ih := leastF_le h0 (l := l) (x := z)
      rcases List.mem_cons.1 hy with rfl | hy
      · exact (ih z (by simp)).trans (bef_asymm hc.2)
      · exact ih y hy
    · rename_i hc
      have ih := leastF_le h0 (l := l) (x := x)
      have hxz : Ok2 rank x z := by
        unfold Ok2
        cases hb : bef rank z x with
        | false => rfl
        | true => exact absurd ⟨h0, hb⟩ hc
      rcases List.mem_cons.1 hy with rfl | hy
      · exact ih y (by simp)
      · rcases List.mem_cons.1 hy with rfl | hy
        · exact (ih x (by simp)).trans hxz
        · exact ih y (by simp [hy])

theorem Ok2.anti {rank : List Int} {a b : Int} (h : Ok2 rank a b) (k : Ok2 rank b a) : a = b := by
  simp only [Ok2, bef, Bool.or_eq_false_iff, Bool.and_eq_false_iff, decide_eq_false_iff_not] at *
  omega

theorem leastF_plain {rank : List Int} (h0 : ¬ (rank.length : Int) > 0) : ∀ {l : List Int} {x : Int}, leastF rank x l = x
  | [], x => rfl
  | y :: l, x => by
    unfold leastF
    rw [if_neg (fun h => h0 h.1)]
    exact leastF_plain h0

/-- The head of a sorted list is the least of those that are in it. -/
theorem least_head {rank : List Int} {z x : Int} {items l : List Int} (g : GoodL rank (z :: items)) (hm : ∀ y, y ∈ z :: items ↔ y ∈ x :: l) (he : ¬ (rank.length : Int) > 0 → z :: items = x :: l) : leastF rank x l = z := by
  by_cases h0 : (rank.length : Int) > 0
  · have h1 := leastF_mem (rank := rank) (l := l) (x := x)
    have h2 := leastF_le h0 (l := l) (x := x) z ((hm z).1 (by simp))
    have h3 := (hm _).2 h1
    rcases List.mem_cons.1 h3 with h | h
    · exact h
    · exact h2.anti ((List.pairwise_cons.1 (g.srt h0)).1 _ h)
  · rw [leastF_plain h0]
    have := he h0
    simp at this
    exact this.1.symm

end Go.Can
