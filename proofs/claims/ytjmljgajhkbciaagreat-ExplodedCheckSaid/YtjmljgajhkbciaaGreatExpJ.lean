/- Readings of a problem and of a list of numbers. -/
import Derived.Test.YtjmljgajhkbciaaGreatIfdsCI
import Derived.Test.YtjmljgajhkbciaaGreatExpA
import Derived.Test.YtjmljgajhkbciaaGreatCanY
set_option linter.unusedSimpArgs false
set_option linter.unusedVariables false
set_option maxRecDepth 100000
namespace Go.Can
open Go Go.Proofs Go.RowKit

theorem ty_int3 {n : Nat} {cs : List AV} (h : Ty Tryz.prog (n + 1) 3 cs) : ∃ q, cs = [.int .i64 q] := by
  unfold Ty at h
  rw [un3] at h
  obtain ⟨q, rfl, _⟩ := h
  exact ⟨q, rfl⟩

theorem ty_node {n : Nat} {cs : List AV} (h : Ty Tryz.prog (n + 2) 77 cs) : ∃ x : ND, mkAV (isAggT Tryz.prog 77) cs = nodeA x := by
  obtain ⟨⟨p, q, rfl, h1, p1, q1, rfl, h2, p2, q2, rfl, h3, rfl⟩, ha⟩ := ty_struct (ts := [3, 3, 3]) (by kernel_rfl) h
  obtain ⟨a, rfl⟩ := ty_int3 h1
  obtain ⟨b, rfl⟩ := ty_int3 h2
  obtain ⟨c, rfl⟩ := ty_int3 h3
  rw [ha]
  exact ⟨(a, b, c), rfl⟩

theorem ty_edge {n : Nat} {cs : List AV} (h : Ty Tryz.prog (n + 2) 70 cs) : ∃ x : ED, mkAV (isAggT Tryz.prog 70) cs = edgeA x := by
  obtain ⟨⟨p, q, rfl, h1, p1, q1, rfl, h2, p2, q2, rfl, h3, p3, q3, rfl, h4, rfl⟩, ha⟩ := ty_struct (ts := [3, 3, 3, 3]) (by kernel_rfl) h
  obtain ⟨a, rfl⟩ := ty_int3 h1
  obtain ⟨b, rfl⟩ := ty_int3 h2
  obtain ⟨c, rfl⟩ := ty_int3 h3
  obtain ⟨d, rfl⟩ := ty_int3 h4
  rw [ha]
  exact ⟨(a, b, c, d), rfl⟩

theorem ty_pair {n : Nat} {cs : List AV} (h : Ty Tryz.prog (n + 2) 79 cs) : ∃ x : PD, mkAV (isAggT Tryz.prog 79) cs = pairA x := by
  obtain ⟨⟨p, q, rfl, h1, p1, q1, rfl, h2, rfl⟩, ha⟩ := ty_struct (ts := [3, 3]) (by kernel_rfl) h
  obtain ⟨a, rfl⟩ := ty_int3 h1
  obtain ⟨b, rfl⟩ := ty_int3 h2
  rw [ha]
  exact ⟨(a, b), rfl⟩

theorem ty_seed {n : Nat} {cs : List AV} (h : Ty Tryz.prog (n + 2) 61 cs) : ∃ x : PD, mkAV (isAggT Tryz.prog 61) cs = pairA x := by
  obtain ⟨⟨p, q, rfl, h1, p1, q1, rfl, h2, rfl⟩, ha⟩ := ty_struct (ts := [3, 3]) (by kernel_rfl) h
  obtain ⟨a, rfl⟩ := ty_int3 h1
  obtain ⟨b, rfl⟩ := ty_int3 h2
  rw [ha]
  exact ⟨(a, b), rfl⟩

theorem map_all {α : Type} {P : List AV → Prop} {f : List AV → AV} {g : α → AV} (hf : ∀ x, P x → ∃ y, f x = g y) : ∀ {xs : List (List AV)}, (∀ x ∈ xs, P x) → ∃ l : List α, xs.map f = l.map g ∧ l.length = xs.length
  | [], _ => ⟨[], rfl, rfl⟩
  | x :: xs, h => by
    obtain ⟨l, h1, h2⟩ := map_all hf (xs := xs) (fun y hy => h y (by simp [hy]))
    obtain ⟨y, hy⟩ := hf x (h x (by simp))
    exact ⟨y :: l, by rw [List.map_cons, List.map_cons, h1, hy], by simp [h2]⟩

theorem ty_list {α : Type} {n : Nat} {t e : TypeId} {sz : Nat} {g : α → AV} {cs : List AV} (ht : Tryz.prog.underlying t = some (.slice e)) (hc : Tryz.prog.cellsOf e = sz) (hf : ∀ x, Ty Tryz.prog n e x → ∃ y, mkAV (isAggT Tryz.prog e) x = g y) (h : Ty Tryz.prog (n + 1) t cs) :
    ∃ l : List α, cs = [.list false sz (l.map g)] ∧ l.length < 2^63 := by
  unfold Ty at h
  rw [ht] at h
  obtain ⟨xs, rfl, h1, h2⟩ := h
  obtain ⟨l, h3, h4⟩ := map_all hf h2
  rw [h3, hc]
  have : maxLen < 2^63 := by decide
  exact ⟨l, rfl, by omega⟩

theorem ty_flow {n : Nat} {cs : List AV} (h : Ty Tryz.prog (n + 3) 47 cs) : ∃ y : List PD, mkAV (isAggT Tryz.prog 47) cs = flA y := by
  obtain ⟨l, rfl, _⟩ := ty_list (g := pairA) un47 (sz := 2) (by kernel_rfl) (fun x hx => ty_pair hx) h
  have ha : isAggT Tryz.prog 47 = false := by simp [isAggT, un47]
  rw [ha]
  exact ⟨l, rfl⟩

theorem tyv29 {n : Nat} {a : AV} (h : TyV Tryz.prog (n + 6) 29 a) : ∃ ns es m facts fl sd, a = .agg (probC ns es m facts fl sd) ∧ fl.length < 2^63 ∧ sd.length < 2^63 := by
  obtain ⟨cs, h1, rfl⟩ := h
  obtain ⟨⟨p, q, rfl, g1, p1, q1, rfl, g2, p2, q2, rfl, g3, p3, q3, rfl, g4, rfl⟩, ha⟩ := ty_struct (ts := [25, 3, 26, 27]) (by kernel_rfl) h1
  rw [ha]
  obtain ⟨⟨r, s, rfl, k1, r1, s1, rfl, k2, r2, s2, rfl, k3, rfl⟩, _⟩ := ty_struct (ts := [22, 23, 3]) (by kernel_rfl) g1
  obtain ⟨ns, rfl, _⟩ := ty_list (g := nodeA) un22 (sz := 3) (by kernel_rfl) (fun x hx => ty_node hx) k1
  obtain ⟨es, rfl, _⟩ := ty_list (g := edgeA) un23 (sz := 4) (by kernel_rfl) (fun x hx => ty_edge hx) k2
  obtain ⟨m, rfl⟩ := ty_int3 k3
  obtain ⟨facts, rfl⟩ := ty_int3 g2
  obtain ⟨fl, rfl, hfl⟩ := ty_list (g := flA) un26 (sz := 1) (by kernel_rfl) (fun x hx => ty_flow hx) g3
  obtain ⟨sd, rfl, hsd⟩ := ty_list (g := pairA) un27 (sz := 2) (by kernel_rfl) (fun x hx => ty_seed hx) g4
  exact ⟨ns, es, m, facts, fl, sd, rfl, hfl, hsd⟩

theorem ty_ints {P : Program} {n : Nat} {e : TypeId} {k : IntKind} (he : P.underlying e = some (.int k)) : ∀ {xs : List (List AV)}, (∀ x ∈ xs, Ty P n e x) → ∃ l : List Int, xs.map (mkAV (isAggT P e)) = l.map (AV.int k) ∧ l.length = xs.length ∧ ∀ z ∈ l, (Lit.int k z).wf = true
  | [], _ => ⟨[], rfl, rfl, fun z hz => by simp at hz⟩
  | x :: xs, h => by
    obtain ⟨l, h1, h2, h3⟩ := ty_ints he (xs := xs) (fun y hy => h y (by simp [hy]))
    have hx := h x (by simp)
    cases n with
    | zero => exact hx.elim
    | succ n =>
      unfold Ty at hx
      rw [he] at hx
      obtain ⟨q, rfl, hq⟩ := hx
      have ha : isAggT P e = false := by simp [isAggT, he]
      refine ⟨q :: l, ?_, by simp [h2], fun z hz => ?_⟩
      · rw [List.map_cons, List.map_cons, h1, ha]; rfl
      · rcases List.mem_cons.1 hz with rfl | hz
        · exact hq
        · exact h3 z hz

theorem ty57 {n : Nat} {cs : List AV} (h : Ty Tryz.prog (n + 1) 30 cs) : ∃ l, cs = [.list false 1 (ints l)] ∧ l.length ≤ maxLen := by
  unfold Ty at h
  rw [un30] at h
  obtain ⟨xs, rfl, h1, h2⟩ := h
  obtain ⟨l, e, e2, _⟩ := ty_ints un3 h2
  have hc : Tryz.prog.cellsOf 3 = 1 := by kernel_rfl
  rw [e, hc]
  exact ⟨l, rfl, by omega⟩

end Go.Can
