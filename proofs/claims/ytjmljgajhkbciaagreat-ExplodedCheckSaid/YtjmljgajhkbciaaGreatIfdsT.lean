/- slices.SortFunc of edges: the sorted list; the world behind the library's sort. -/
import Derived.Test.YtjmljgajhkbciaaGreatIfdsX
import Derived.Test.YtjmljgajhkbciaaGreatIfdsD
import Derived.Shelf.SlSortCmp.WholeK
import Derived.Sort.AssemblyPlain
set_option linter.unusedSimpArgs false
set_option linter.unusedVariables false
namespace Go.Can
open Go Go.Proofs Go.RowKit Go.Shelf

theorem cmpE_lt {a b : ED} : cmpE a b < 0 ↔ ltE a b = true := by
  unfold cmpE ltE orI orI orI orI orI cmpI
  rw [decide_eq_true_eq]
  repeat' split
  all_goals omega

theorem swoE : Go.Sort.SWO (Go.Proofs.ltOf cmpE) where
  irrefl x := by
    unfold Go.Proofs.ltOf
    rw [decide_eq_false_iff_not, cmpE_lt, ltE_irr]
    decide
  trans x y z h1 h2 := by
    unfold Go.Proofs.ltOf at *
    rw [decide_eq_true_eq, cmpE_lt] at *
    exact ltE_trans h1 h2
  ntrans x y z h1 h2 := by
    unfold Go.Proofs.ltOf at *
    rw [decide_eq_false_iff_not, cmpE_lt] at *
    unfold ltE at *
    simp only [decide_eq_true_eq] at *
    omega

theorem sortE_eq {l : List ED} : sortE l = (Go.Sort.pdq (Go.Proofs.ltOf cmpE) l.toArray 0 l.toArray.size (Go.Lib.bitLen l.toArray.size) true true).toList := rfl

theorem sortE_spec (l : List ED) : Go.Sort.PermIn 0 l.toArray.size l.toArray (Go.Sort.pdq (Go.Proofs.ltOf cmpE) l.toArray 0 l.toArray.size (Go.Lib.bitLen l.toArray.size) true true) ∧ Go.Sort.SortedIn (Go.Proofs.ltOf cmpE) 0 l.toArray.size (Go.Sort.pdq (Go.Proofs.ltOf cmpE) l.toArray 0 l.toArray.size (Go.Lib.bitLen l.toArray.size) true true) :=
  Go.Sort.pdq_sorts (Go.Proofs.ltOf cmpE) swoE l.toArray 0 l.toArray.size (Go.Lib.bitLen l.toArray.size) true true (Nat.zero_le _) (Nat.le_refl _) (Or.inl rfl)

theorem sortE_perm (l : List ED) : (sortE l).Perm l := by
  obtain ⟨⟨h1, _, h2⟩, _⟩ := sortE_spec l
  rw [sortE_eq]
  generalize Go.Sort.pdq (Go.Proofs.ltOf cmpE) l.toArray 0 l.toArray.size (Go.Lib.bitLen l.toArray.size) true true = d at *
  have e1 : d.extract 0 l.toArray.size = d := by rw [← h1]; simp
  have e2 : l.toArray.extract 0 l.toArray.size = l.toArray := by simp
  rw [e1, e2] at h2
  simpa using h2

theorem sortE_len (l : List ED) : (sortE l).length = l.length := (sortE_perm l).length_eq

theorem sortE_srt (l : List ED) : Srt (sortE l) := by
  obtain ⟨⟨h1, _, _⟩, h2⟩ := sortE_spec l
  have hlen := sortE_len l
  rw [sortE_eq] at hlen ⊢
  generalize Go.Sort.pdq (Go.Proofs.ltOf cmpE) l.toArray 0 l.toArray.size (Go.Lib.bitLen l.toArray.size) true true = d at *
  unfold Srt
  rw [List.pairwise_iff_getElem]
  intro i j hi hj hij
  have := h2 i j (by omega) hij (by simp at hj h1 ⊢; omega)
  unfold Go.Proofs.ltOf at this
  rw [decide_eq_false_iff_not, cmpE_lt] at this
  have hi' : i < d.size := by simpa using hi
  have hj' : j < d.size := by simpa using hj
  rw [getElem!_pos d i hi', getElem!_pos d j hj'] at this
  simp only [Array.getElem_toList]
  unfold ltE at this
  simp only [decide_eq_true_eq] at this
  omega

theorem sortE_any (l : List ED) (p : ED → Bool) : (sortE l).any p = l.any p := by
  rw [Bool.eq_iff_iff, List.any_eq_true, List.any_eq_true]
  constructor
  · rintro ⟨x, hx, h⟩; exact ⟨x, (sortE_perm l).mem_iff.1 hx, h⟩
  · rintro ⟨x, hx, h⟩; exact ⟨x, (sortE_perm l).mem_iff.2 hx, h⟩

/-! The edges' cells. -/
def encE (e : ED) : List Value := [.int .i64 e.1, .int .i64 e.2.1, .int .i64 e.2.2.1, .int .i64 e.2.2.2]

theorem encE_cells {M : Mem} {θ : Th} {e : ED} {j : Nat} {c : AV} (h : (edgeA e).cells[j]? = some c) : ∃ z, c = .int .i64 z ∧ (encE e)[j]! = .int .i64 z ∧ j < 4 := by
  have h' : ([AV.int .i64 e.1, .int .i64 e.2.1, .int .i64 e.2.2.1, .int .i64 e.2.2.2] : List AV)[j]? = some c := h
  match j, h' with
  | 0, h' => cases h'; exact ⟨_, rfl, rfl, by omega⟩
  | 1, h' => cases h'; exact ⟨_, rfl, rfl, by omega⟩
  | 2, h' => cases h'; exact ⟨_, rfl, rfl, by omega⟩
  | 3, h' => cases h'; exact ⟨_, rfl, rfl, by omega⟩
  | j + 4, h' => simp at h'

theorem edge_at {e : ED} {j : Nat} (h : j < 4) : ∃ z, (edgeA e).cells[j]? = some (.int .i64 z) ∧ (encE e)[j]! = .int .i64 z := by
  match j, h with
  | 0, _ => exact ⟨_, rfl, rfl⟩
  | 1, _ => exact ⟨_, rfl, rfl⟩
  | 2, _ => exact ⟨_, rfl, rfl⟩
  | 3, _ => exact ⟨_, rfl, rfl⟩

theorem flat_at {l : List ED} {i j : Nat} (hi : i < l.length) (hj : j < 4) : (Go.Sort.flatK encE 4 l.toArray)[i * 4 + j]! = (encE l[i])[j]! := by
  rw [Go.Sort.get_flatK _ _ _ _ (by simp; omega)]
  have e1 : (i * 4 + j) / 4 = i := by omega
  have e2 : (i * 4 + j) % 4 = j := by omega
  rw [e1, e2]
  congr 2
  simp [hi]

/-- The row holds the edges, as the library says it. -/
theorem holds_row {w : World} {M : Mem} {θ : Th} {l : List ED} {g cap : Nat} {cur : Array Value} {e : TypeId} (hb : w.heap[g]? = some (.cells cur e (0, 0))) (hsz : cur.size = cap * 4) (hlc : l.length ≤ cap) (hr : RowR M θ 4 (l.map edgeA) cur) :
    Go.Sort.HoldsK encE 4 w g 0 l.toArray := by
  intro t ht
  rw [Go.Sort.size_flatK] at ht
  simp at ht
  have h1 : t / 4 < l.length := by omega
  have h2 : t % 4 < 4 := by omega
  have h3 : t = t / 4 * 4 + t % 4 := by omega
  obtain ⟨z, hz, hz2⟩ := edge_at (e := l[t / 4]) h2
  have hx : (l.map edgeA)[t / 4]? = some (edgeA l[t / 4]) := by simp [h1]
  have hc := (hr (t / 4) _ hx (t % 4) _ hz).rep.int
  rw [← h3] at hc
  have hf := flat_at h1 h2
  rw [← h3] at hf
  rw [hf, hz2]
  have hlt : t < cur.size := by omega
  refine ⟨?_, ?_⟩
  · simp only [World.cell?, hb, Option.isSome_none, Bool.false_eq_true, if_false, Nat.zero_add, id]
    rw [Array.getD_eq_getD_getElem?, Array.getElem?_eq_getElem hlt] at hc
    rw [Array.getElem?_eq_getElem hlt]
    exact congrArg some hc
  · simp [World.frozen?, hb]

/-- Behind the sort: the row's block holds the new edges. -/
theorem row_put {M : Mem} {θ : Th} {l : List ED} {cap : Nat} {cur : Array Value} (hsz : cur.size = cap * 4) (hlc : l.length ≤ cap) :
    RowR M θ 4 (l.map edgeA) (Go.Sort.putCells id 0 (Go.Sort.flatK encE 4 l.toArray) cur) ∧ (Go.Sort.putCells id 0 (Go.Sort.flatK encE 4 l.toArray) cur).size = cap * 4 := by
  refine ⟨fun i x hx j c hc => ?_, by simp [Go.Sort.putCells, hsz]⟩
  have hi : i < l.length := by have := (List.getElem?_eq_some_iff.1 hx).1; simpa using this
  have hx' : x = edgeA l[i] := by
    have : (l.map edgeA)[i]? = some (edgeA l[i]) := by simp [hi]
    rw [this] at hx; cases hx; rfl
  subst hx'
  obtain ⟨z, rfl, hz, hj⟩ := encE_cells (M := M) (θ := θ) hc
  have hlt : i * 4 + j < cur.size := by omega
  have e1 : (Go.Sort.putCells id 0 (Go.Sort.flatK encE 4 l.toArray) cur).getD (i * 4 + j) undef = .int .i64 z := by
    rw [Array.getD_eq_getD_getElem?]
    have hlt2 : i * 4 + j < 0 + (Go.Sort.flatK encE 4 l.toArray).size := by rw [Go.Sort.size_flatK]; simp; omega
    simp only [Go.Sort.putCells, Array.getElem?_mapIdx, Array.getElem?_eq_getElem hlt, Option.map_some, Nat.zero_le, hlt2, and_self, if_true, Nat.sub_zero, id, Option.getD_some]
    rw [flat_at hi hj, hz]
  rw [e1]
  exact .int _ _

end Go.Can
