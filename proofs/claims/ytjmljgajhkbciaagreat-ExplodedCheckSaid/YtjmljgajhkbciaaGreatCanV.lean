/- The evaluator without fuel: the limit of the evaluators with fuel, and its own law. Tools for the functions' contracts: the text's order without the check; slices, however they lie. The laws by which 'simp only [go_sem]' carries out a function's body in the evaluator. -/
import Derived.Test.YtjmljgajhkbciaaGreatCanS
set_option linter.unusedSimpArgs false
set_option linter.unusedVariables false
namespace Go.Can
open Go Go.RowKit

/-- What the one answers, the other answers too. -/
def Leq {α β : Type} (f g : α → Option β) : Prop := ∀ a b, f a = some b → g a = some b
def LeqC (C C' : CallF) : Prop := ∀ f args σ base r, C f args σ base = some r → C' f args σ base = some r

section
variable {P : Program} {C C' : CallF} {cf : Cfg}

theorem evalV_mono (hC : LeqC C C') {base nid : Nat} {isv : Tmp → Bool} {bs : Tmp → Option Tmp} {env : Env} {σ : St} {o : Oper} {r : St × Slot} (h : evalV P C base isv bs nid env σ o = some r) : evalV P C' base isv bs nid env σ o = some r := by
  unfold evalV at h ⊢
  cases ho : o.op <;> simp only [ho] at h ⊢ <;> try exact h
  case makeFunc fn fi ca => cases fn <;> exact h
  case makeMap t r => cases r <;> exact h
  case call c =>
    split at h
    · rename_i args ha
      split at h
      · rename_i hb; exact h
      · split at h
        · rename_i hv
          split at h
          · rename_i hc; rw [hC _ _ _ _ _ hc]; exact h
          · cases h
        · cases h
      · cases h
    · cases h

theorem evalOp_mono (hC : LeqC C C') {base nid : Nat} {isv : Tmp → Bool} {bs : Tmp → Option Tmp} {env : Env} {σ : St} {o : Oper} {r : Env × St × Slot} (h : evalOp P C base isv bs nid env σ o = some r) : evalOp P C' base isv bs nid env σ o = some r := by
  unfold evalOp at h ⊢
  split at h
  · exact h
  · split at h
    · rename_i hv; rw [evalV_mono hC hv]; exact h
    · cases h

theorem stepA_mono (hC : LeqC C C') {base n0 i : Nat} {isv : Tmp → Bool} {bs : Tmp → Option Tmp} {ops : List Oper} {s m : S} (h : stepA P C base isv bs ops n0 i s = some m) : stepA P C' base isv bs ops n0 i s = some m := by
  unfold stepA at h ⊢
  split at h
  · exact h
  · split at h
    · rename_i hd
      rw [if_pos hd]
      split at h
      · split at h
        · rename_i hv; rw [evalOp_mono hC hv]; exact h
        · cases h
      · exact h
      · cases h
    · cases h

theorem runA_mono {st st' : Nat → S → Option S} (hs : ∀ i, Leq (st i) (st' i)) : ∀ {l : List Nat} {s m : S}, runA st l s = some m → runA st' l s = some m
  | [], s, m, h => h
  | i :: l, s, m, h => by
    unfold runA at h ⊢
    split at h
    · rename_i s1 h1; rw [hs i _ _ h1]; exact runA_mono hs h
    · cases h

theorem regionA_mono (hC : LeqC C C') {base : Nat} {f : FuncId} {id : Nat} {ops : Array Oper} {d : Bool} : Leq (regionA P cf C base f id ops d) (regionA P cf C' base f id ops d) := by
  intro s m h
  unfold regionA at h ⊢
  simp only at h ⊢
  split at h
  · rename_i hok
    rw [if_pos hok]
    split at h
    · rename_i env σ hr; rw [runA_mono (fun i s m h => stepA_mono hC h) hr]; exact h
    · cases h
  · cases h

abbrev LoopF := (S → Option (Out × S)) → S → Option (Out × S)

theorem round_mono {mk : Code → Option Out → Env → Option Env} {a : Code} {ex ex' : S → Option (Out × S)} (h : Leq ex ex') : Leq (roundA mk ex a) (roundA mk ex' a) := by
  intro s r hr
  unfold roundA at hr ⊢
  split at hr
  · exact h _ _ hr
  · cases hr

theorem execC_mono {rg rg' : Nat → Array Oper → Bool → S → Option S} {mk : Code → Option Out → Env → Option Env} {lp lp' : LoopF} (hr : ∀ id ops d, Leq (rg id ops d) (rg' id ops d)) (hl : ∀ b b', Leq b b' → Leq (lp b) (lp' b')) :
    ∀ c, Leq (execC rg mk lp c) (execC rg' mk lp' c) := by
  intro c
  induction c with
  | skip => intro s r h; exact h
  | label l => intro s r h; exact h
  | exit l => intro s r h; exact h
  | ret => intro s r h; exact h
  | region id ops d =>
    intro s r h
    unfold execC at h ⊢
    split at h
    · rename_i h1; rw [hr _ _ _ _ _ h1]; exact h
    · cases h
  | seq x y ihx ihy =>
    intro s r h
    unfold execC at h ⊢
    split at h
    · rename_i h1; rw [ihx _ _ h1]; exact ihy _ _ h
    · rename_i hne
      rw [ihx _ _ h]
      obtain ⟨out, s'⟩ := r
      cases out with
      | normal => exact absurd h (hne s')
      | exit i => rfl
      | ret => rfl
  | cond c x y ihx ihy =>
    intro s r h
    unfold execC at h ⊢
    split at h
    · exact ihx _ _ h
    · exact ihy _ _ h
    · cases h
  | block id x ih =>
    intro s r h
    unfold execC at h ⊢
    split at h
    · rename_i i s1 h1; rw [ih _ _ h1]; exact h
    · rename_i hne
      rw [ih _ _ h]
      obtain ⟨out, s'⟩ := r
      cases out with
      | normal => rfl
      | exit i => exact absurd h (hne i s')
      | ret => rfl
  | loop x ih =>
    intro s r h
    unfold execC at h ⊢
    split at h
    · rename_i out1 s1 h0
      rw [hl _ _ (round_mono ih) _ _ h0]
      exact h
    · cases h
  | _ => intro s r h; cases h

theorem bodyA_mono (hC : LeqC C C') {lp lp' : LoopF} (hl : ∀ b b', Leq b b' → Leq (lp b) (lp' b')) {f : FuncId} {fn : Func} {c : Code} {args : List AV} {σ : St} {base : Nat} {r : AV × St} (h : bodyA P cf C lp f fn c args σ base = some r) :
    bodyA P cf C' lp' f fn c args σ base = some r := by
  unfold bodyA at h ⊢
  split at h
  · rename_i s1 h1; rw [execC_mono (fun id ops d => regionA_mono hC) hl c _ _ h1]; exact h
  · rename_i s1 h1; rw [execC_mono (fun id ops d => regionA_mono hC) hl c _ _ h1]; exact h
  · cases h

theorem enterA_mono (hC : LeqC C C') {lp lp' : LoopF} (hl : ∀ b b', Leq b b' → Leq (lp b) (lp' b')) : LeqC (enterA P cf C lp) (enterA P cf C' lp') := by
  intro f args σ base r h
  unfold enterA at h ⊢
  split at h
  · exact h
  · split at h
    · split at h
      · split at h
        · rename_i hp
          rw [if_pos hp]
          split at h
          · rename_i v s1 hb; rw [bodyA_mono hC hl hb]; exact h
          · cases h
        · rename_i hp
          rw [if_neg hp]
          exact bodyA_mono hC hl h
      · cases h
    · cases h

theorem loopN_mono {b b' : S → Option (Out × S)} (hb : Leq b b') : ∀ {n m : Nat}, n ≤ m → Leq (loopN b n) (loopN b' m)
  | 0, m, _, s, r, h => by cases h
  | n + 1, 0, hm, s, r, h => by omega
  | n + 1, m + 1, hm, s, r, h => by
    unfold loopN at h ⊢
    split at h
    · rename_i s1 h1; rw [hb _ _ h1]; exact loopN_mono hb (Nat.le_of_succ_le_succ hm) _ _ h
    · rename_i hne
      rw [hb _ _ h]
      obtain ⟨out, s'⟩ := r
      cases out with
      | normal => exact absurd h (hne s')
      | exit i => rfl
      | ret => rfl

theorem callN_succ_le : ∀ n, LeqC (callN P cf n) (callN P cf (n + 1))
  | 0 => fun _ _ _ _ _ h => by cases h
  | n + 1 => enterA_mono (callN_succ_le n) (fun b b' hb => loopN_mono hb (Nat.le_succ n))

theorem callN_le {n m : Nat} (h : n ≤ m) : LeqC (callN P cf n) (callN P cf m) := by
  induction h with
  | refl => exact fun _ _ _ _ _ h => h
  | step _ ih => exact fun f args σ base r h => callN_succ_le _ _ _ _ _ _ (ih f args σ base r h)

open Classical in
/-- The limit of a loop. -/
noncomputable def loopL (b : S → Option (Out × S)) (s : S) : Option (Out × S) := if h : ∃ r n, loopN b n s = some r then some h.choose else none

theorem loopL_iff {b : S → Option (Out × S)} {s : S} {r : Out × S} : loopL b s = some r ↔ ∃ n, loopN b n s = some r := by
  unfold loopL
  constructor
  · intro h
    split at h
    · rename_i hex; cases h; exact hex.choose_spec
    · cases h
  · rintro ⟨n, hn⟩
    have hex : ∃ r n, loopN b n s = some r := ⟨r, n, hn⟩
    rw [dif_pos hex]
    obtain ⟨m, hm⟩ := hex.choose_spec
    have h1 := loopN_mono (fun _ _ h => h) (Nat.le_max_left n m) _ _ hn
    have h2 := loopN_mono (fun _ _ h => h) (Nat.le_max_right n m) _ _ hm
    rw [h1] at h2; exact h2.symm

open Classical in
/-- The limit of the calls. -/
noncomputable def callL (P : Program) (cf : Cfg) : CallF := fun f args σ base => if h : ∃ r n, callN P cf n f args σ base = some r then some h.choose else none

theorem callL_iff {f : FuncId} {args : List AV} {σ : St} {base : Nat} {r : AV × St} : callL P cf f args σ base = some r ↔ ∃ n, callN P cf n f args σ base = some r := by
  unfold callL
  constructor
  · intro h
    split at h
    · rename_i hex; cases h; exact hex.choose_spec
    · cases h
  · rintro ⟨n, hn⟩
    have hex : ∃ r n, callN P cf n f args σ base = some r := ⟨r, n, hn⟩
    rw [dif_pos hex]
    obtain ⟨m, hm⟩ := hex.choose_spec
    have h1 := callN_le (Nat.le_max_left n m) _ _ _ _ _ hn
    have h2 := callN_le (Nat.le_max_right n m) _ _ _ _ _ hm
    rw [h1] at h2; exact h2.symm

theorem callL_good (hm : P.follows .mixedOrders = true) (he : Enters P) (hp : PrimOk P cf) : CallGood P cf (callL P cf) := by
  refine ⟨⟨fun f args σ base r σ' hb h => ?_, fun f args σ base r σ' hb h => ?_⟩, fun f args σ base r σ' hpf h => ?_, fun f args σ base r σ' hpf h => ?_⟩
  · obtain ⟨n, hn⟩ := callL_iff.1 h; exact (callN_good hm he hp n).ok.sim _ _ _ _ _ _ hb hn
  · obtain ⟨n, hn⟩ := callL_iff.1 h; exact (callN_good hm he hp n).ok.keep _ _ _ _ _ _ hb hn
  · obtain ⟨n, hn⟩ := callL_iff.1 h; exact (callN_good hm he hp n).pure _ _ _ _ _ _ hpf hn
  · obtain ⟨n, hn⟩ := callL_iff.1 h; exact (callN_good hm he hp n).grow _ _ _ _ _ _ hpf hn

/-! What holds at the limit holds at some fuel. -/

/-- 'g' is the limit of the 'f n', which grow. -/
structure Lim {α β : Type} (f : Nat → α → Option β) (g : α → Option β) : Prop where
  mono : ∀ n m, n ≤ m → Leq (f n) (f m)
  sup : ∀ a b, g a = some b → ∃ n, f n a = some b

theorem evalV_cont {base nid : Nat} {isv : Tmp → Bool} {bs : Tmp → Option Tmp} {env : Env} {σ : St} {o : Oper} {r : St × Slot} (h : evalV P (callL P cf) base isv bs nid env σ o = some r) : ∃ n, evalV P (callN P cf n) base isv bs nid env σ o = some r := by
  unfold evalV at h ⊢
  cases ho : o.op <;> simp only [ho] at h ⊢ <;> try exact ⟨0, h⟩
  case makeFunc fn fi ca => cases fn <;> exact ⟨0, h⟩
  case makeMap t r => cases r <;> exact ⟨0, h⟩
  case call c =>
    split at h
    · rename_i args ha
      split at h
      · rename_i hb; exact ⟨0, h⟩
      · split at h
        · rename_i hv
          split at h
          · rename_i hc
            obtain ⟨n, hn⟩ := callL_iff.1 hc
            exact ⟨n, by rw [hn]; exact h⟩
          · cases h
        · cases h
      · cases h
    · cases h

theorem evalOp_cont {base nid : Nat} {isv : Tmp → Bool} {bs : Tmp → Option Tmp} {env : Env} {σ : St} {o : Oper} {r : Env × St × Slot} (h : evalOp P (callL P cf) base isv bs nid env σ o = some r) : ∃ n, evalOp P (callN P cf n) base isv bs nid env σ o = some r := by
  unfold evalOp at h ⊢
  split at h
  · exact ⟨0, h⟩
  · split at h
    · rename_i hv
      obtain ⟨n, hn⟩ := evalV_cont hv
      exact ⟨n, by rw [hn]; exact h⟩
    · cases h

theorem stepA_cont {base n0 i : Nat} {isv : Tmp → Bool} {bs : Tmp → Option Tmp} {ops : List Oper} : Lim (fun n => stepA P (callN P cf n) base isv bs ops n0 i) (stepA P (callL P cf) base isv bs ops n0 i) := by
  refine ⟨fun n m hnm s r h => stepA_mono (callN_le hnm) h, fun s r h => ?_⟩
  unfold stepA at h ⊢
  split at h
  · exact ⟨0, h⟩
  · rename_i o ho
    split at h
    · rename_i hd
      simp only [if_pos hd]
      split at h
      · rename_i hw
        split at h
        · rename_i hv
          obtain ⟨n, hn⟩ := evalOp_cont hv
          exact ⟨n, by rw [hn]; exact h⟩
        · cases h
      · exact ⟨0, h⟩
      · cases h
    · cases h

theorem runA_cont {st : Nat → Nat → S → Option S} {stL : Nat → S → Option S} (hs : ∀ i, Lim (fun n => st n i) (stL i)) : ∀ {l : List Nat}, Lim (fun n => runA (st n) l) (runA stL l)
  | [] => ⟨fun _ _ _ _ _ h => h, fun _ _ h => ⟨0, h⟩⟩
  | i :: l => by
    refine ⟨fun n m hnm s r h => runA_mono (fun i => (hs i).mono n m hnm) h, fun s r h => ?_⟩
    unfold runA at h
    split at h
    · rename_i s1 h1
      obtain ⟨n, hn⟩ := (hs i).sup _ _ h1
      obtain ⟨m, hm⟩ := (runA_cont hs (l := l)).sup _ _ h
      refine ⟨max n m, ?_⟩
      simp only [runA]
      rw [(hs i).mono n _ (Nat.le_max_left _ _) _ _ hn]
      exact (runA_cont hs (l := l)).mono m _ (Nat.le_max_right _ _) _ _ hm
    · cases h

theorem regionA_cont {base : Nat} {f : FuncId} {id : Nat} {ops : Array Oper} {d : Bool} : Lim (fun n => regionA P cf (callN P cf n) base f id ops d) (regionA P cf (callL P cf) base f id ops d) := by
  refine ⟨fun n m hnm => regionA_mono (callN_le hnm), fun s r h => ?_⟩
  unfold regionA at h ⊢
  simp only at h ⊢
  split at h
  · rename_i hok
    simp only [hok, if_true]
    split at h
    · rename_i env σ hr
      obtain ⟨n, hn⟩ := (runA_cont fun i => stepA_cont).sup _ _ hr
      exact ⟨n, by rw [hn]; exact h⟩
    · cases h
  · cases h

theorem loop_cont {b : Nat → S → Option (Out × S)} {bL : S → Option (Out × S)} (hb : Lim b bL) : Lim (fun n => loopN (b n) n) (loopL bL) := by
  refine ⟨fun n m hnm => loopN_mono (hb.mono n m hnm) hnm, fun s r h => ?_⟩
  obtain ⟨k, hk⟩ := loopL_iff.1 h
  have key : ∀ (k : Nat) (s : S), loopN bL k s = some r → ∃ n, loopN (b n) k s = some r := by
    intro k
    induction k with
    | zero => intro s h; cases h
    | succ k ih =>
      intro s h
      unfold loopN at h
      split at h
      · rename_i s1 h1
        obtain ⟨n, hn⟩ := hb.sup _ _ h1
        obtain ⟨m, hm⟩ := ih _ h
        refine ⟨max n m, ?_⟩
        unfold loopN
        rw [hb.mono n _ (Nat.le_max_left _ _) _ _ hn]
        exact loopN_mono (hb.mono m _ (Nat.le_max_right _ _)) (Nat.le_refl _) _ _ hm
      · rename_i hne
        obtain ⟨n, hn⟩ := hb.sup _ _ h
        refine ⟨n, ?_⟩
        unfold loopN
        rw [hn]
        obtain ⟨out, s'⟩ := r
        cases out with
        | normal => exact absurd h (hne s')
        | exit i => rfl
        | ret => rfl
  obtain ⟨n, hn⟩ := key k s hk
  exact ⟨max n k, loopN_mono (hb.mono n _ (Nat.le_max_left _ _)) (Nat.le_max_right _ _) _ _ hn⟩

theorem execC_cont {rg : Nat → Nat → Array Oper → Bool → S → Option S} {rgL : Nat → Array Oper → Bool → S → Option S} {mk : Code → Option Out → Env → Option Env} (hr : ∀ id ops d, Lim (fun n => rg n id ops d) (rgL id ops d)) :
    ∀ c, Lim (fun n => execC (rg n) mk (fun b s => loopN b n s) c) (execC rgL mk loopL c) := by
  have hmono : ∀ c n m, n ≤ m → Leq (execC (rg n) mk (fun b s => loopN b n s) c) (execC (rg m) mk (fun b s => loopN b m s) c) := fun c n m hnm =>
    execC_mono (fun id ops d => (hr id ops d).mono n m hnm) (fun b b' hb => loopN_mono hb hnm) c
  intro c
  refine ⟨hmono c, ?_⟩
  induction c with
  | skip => intro s r h; exact ⟨0, h⟩
  | label l => intro s r h; exact ⟨0, h⟩
  | exit l => intro s r h; exact ⟨0, h⟩
  | ret => intro s r h; exact ⟨0, h⟩
  | region id ops d =>
    intro s r h
    simp only [execC] at h ⊢
    split at h
    · rename_i h1
      obtain ⟨n, hn⟩ := (hr id ops d).sup _ _ h1
      exact ⟨n, by rw [hn]; exact h⟩
    · cases h
  | seq x y ihx ihy =>
    intro s r h
    simp only [execC] at h ⊢
    split at h
    · rename_i h1
      obtain ⟨n, hn⟩ := ihx _ _ h1
      obtain ⟨m, hm⟩ := ihy _ _ h
      refine ⟨max n m, ?_⟩
      rw [hmono x n _ (Nat.le_max_left _ _) _ _ hn]
      exact hmono y m _ (Nat.le_max_right _ _) _ _ hm
    · rename_i hne
      obtain ⟨n, hn⟩ := ihx _ _ h
      refine ⟨n, ?_⟩
      rw [hn]
      obtain ⟨out, s'⟩ := r
      cases out with
      | normal => exact absurd h (hne s')
      | exit i => rfl
      | ret => rfl
  | cond c x y ihx ihy =>
    intro s r h
    simp only [execC] at h ⊢
    split at h
    · exact ihx _ _ h
    · exact ihy _ _ h
    · cases h
  | block id x ih =>
    intro s r h
    simp only [execC] at h ⊢
    split at h
    · rename_i i s1 h1
      obtain ⟨n, hn⟩ := ih _ _ h1
      exact ⟨n, by rw [hn]; exact h⟩
    · rename_i hne
      obtain ⟨n, hn⟩ := ih _ _ h
      refine ⟨n, ?_⟩
      rw [hn]
      obtain ⟨out, s'⟩ := r
      cases out with
      | normal => rfl
      | exit i => exact absurd h (hne i s')
      | ret => rfl
  | loop x ih =>
    intro s r h
    simp only [execC] at h ⊢
    split at h
    · rename_i out1 s1 h0
      have hlim : Lim (fun n => roundA mk (execC (rg n) mk (fun b s => loopN b n s) x) x) (roundA mk (execC rgL mk loopL x) x) := by
        refine ⟨fun n m hnm => round_mono (hmono x n m hnm), fun s r h => ?_⟩
        unfold roundA at h ⊢
        split at h
        · exact ih _ _ h
        · cases h
      obtain ⟨n, hn⟩ := (loop_cont hlim).sup _ _ h0
      exact ⟨n, by rw [hn]; exact h⟩
    · cases h
  | _ => intro s r h; cases h

theorem bodyA_cont {f : FuncId} {fn : Func} {c : Code} {args : List AV} {σ : St} {base : Nat} {r : AV × St} (h : bodyA P cf (callL P cf) loopL f fn c args σ base = some r) :
    ∃ n, bodyA P cf (callN P cf n) (fun b s => loopN b n s) f fn c args σ base = some r := by
  unfold bodyA at h ⊢
  split at h
  · rename_i h1
    obtain ⟨n, hn⟩ := (execC_cont (mk := fun c o e => maskA (fun t => (cf.live f c o).contains t) 0 e) (fun id ops d => regionA_cont (base := base) (f := f) (id := id) (ops := ops) (d := d)) c).sup _ _ h1
    exact ⟨n, by rw [hn]; exact h⟩
  · rename_i h1
    obtain ⟨n, hn⟩ := (execC_cont (mk := fun c o e => maskA (fun t => (cf.live f c o).contains t) 0 e) (fun id ops d => regionA_cont (base := base) (f := f) (id := id) (ops := ops) (d := d)) c).sup _ _ h1
    exact ⟨n, by rw [hn]; exact h⟩
  · cases h

/-- The law of the limit: what a function's body comes to, with the limit for its calls and its loops, is what the limit says of the function. -/
theorem callL_intro {f : FuncId} {args : List AV} {σ : St} {base : Nat} {r : AV × St} (h : enterA P cf (callL P cf) loopL f args σ base = some r) : callL P cf f args σ base = some r := by
  refine callL_iff.2 ?_
  have key : ∃ n, enterA P cf (callN P cf n) (fun b s => loopN b n s) f args σ base = some r := by
    unfold enterA at h ⊢
    split at h
    · exact ⟨0, h⟩
    · split at h
      · split at h
        · split at h
          · rename_i hp
            simp only [hp, if_true]
            split at h
            · rename_i v s1 hb
              obtain ⟨n, hn⟩ := bodyA_cont hb
              exact ⟨n, by rw [hn]; exact h⟩
            · cases h
          · rename_i hp
            simp only [hp]
            obtain ⟨n, hn⟩ := bodyA_cont h
            exact ⟨n, hn⟩
        · cases h
      · cases h
  obtain ⟨n, hn⟩ := key
  exact ⟨n + 1, hn⟩

/-! Loops, round by round. -/

theorem loopL_next {b : S → Option (Out × S)} {s s1 : S} {r : Out × S} (h : b s = some (.normal, s1)) (h1 : loopL b s1 = some r) : loopL b s = some r := by
  obtain ⟨n, hn⟩ := loopL_iff.1 h1
  refine loopL_iff.2 ⟨n + 1, ?_⟩
  unfold loopN
  rw [h]
  exact hn

theorem loopL_exit {b : S → Option (Out × S)} {s s1 : S} {i : Nat} (h : b s = some (.exit i, s1)) : loopL b s = some (.exit i, s1) :=
  loopL_iff.2 ⟨1, by unfold loopN; rw [h]⟩

theorem loopL_ret {b : S → Option (Out × S)} {s s1 : S} (h : b s = some (.ret, s1)) : loopL b s = some (.ret, s1) :=
  loopL_iff.2 ⟨1, by unfold loopN; rw [h]⟩

end
end Go.Can

namespace Go.Can
open Go Go.RowKit

section
variable {P : Program} {C : CallF} {cf : Cfg} {base : Nat}

/-- The operations of a region one after another. -/
def runO (P : Program) (C : CallF) (base : Nat) (isv : Tmp → Bool) (bs : Tmp → Option Tmp) (ops : List Oper) : List Oper → Nat → S → Option S
  | [], _, s => some s
  | o :: rest, nid, s => match stepO P C base isv bs ops nid o s with
    | some s' => runO P C base isv bs ops rest (if allocs isv o then nid + 1 else nid) s'
    | none => none

theorem runO_eq {isv : Tmp → Bool} {bs : Tmp → Option Tmp} {ops : List Oper} {n0 : Nat} : ∀ {rest pre : List Oper} {s : S}, ops = pre ++ rest →
    runA (stepA P C base isv bs ops n0) (List.range' pre.length rest.length) s = runO P C base isv bs ops rest (n0 + pre.countP (allocs isv)) s
  | [], pre, s, _ => rfl
  | o :: rest, pre, s, h => by
    have hi : ops[pre.length]? = some o := by rw [h]; simp
    have ht : ops.take pre.length = pre := by rw [h]; simp
    have hpre : ops = (pre ++ [o]) ++ rest := by rw [h]; simp
    have ih : ∀ s, runA (stepA P C base isv bs ops n0) (List.range' (pre ++ [o]).length rest.length) s = runO P C base isv bs ops rest (n0 + (pre ++ [o]).countP (allocs isv)) s := fun s => runO_eq hpre
    simp only [List.length_cons, List.range'_succ, runA, runO]
    rw [stepA_stepO hi, ht]
    cases stepO P C base isv bs ops (n0 + pre.countP (allocs isv)) o s with
    | none => rfl
    | some s' =>
      have := ih s'
      simp only [List.length_append, List.length_cons, List.length_nil, Nat.zero_add, List.countP_append, List.countP_cons, List.countP_nil] at this
      simp only []
      rw [this]
      congr 1
      split <;> omega

def isvOf (cf : Cfg) (f : FuncId) (t : Tmp) : Bool := (cf.vars f).contains t

def regionT (P : Program) (cf : Cfg) (C : CallF) (base : Nat) (f : FuncId) (ops : List Oper) (s : S) : Option S :=
  match runO P C base (isvOf cf f) (baseAt (isvOf cf f) (baseOf (isvOf cf f) ops [])) ops ops s.2.length (s.1, s.2 ++ List.replicate (ops.countP (allocs (isvOf cf f))) .none) with
  | some (env, σ) => some (clearA (fun t => (cf.keep f).contains t) ops env, σ)
  | none => none

def codeOk (P : Program) (cf : Cfg) (f : FuncId) : Code → Bool
  | .region _ ops d => !d || regionOk P cf.pure cf.grow (isvOf cf f) (baseAt (isvOf cf f) (baseOf (isvOf cf f) ops.toList [])) ops
  | .seq a b => codeOk P cf f a && codeOk P cf f b
  | .cond _ a b => codeOk P cf f a && codeOk P cf f b
  | .block _ a => codeOk P cf f a
  | .loop a => codeOk P cf f a
  | _ => true

def loopB (rg : Nat → Array Oper → Bool → S → Option S) (mk : Code → Option Out → Env → Option Env) (lp : LoopF) (a : Code) : S → Option (Out × S) := roundA mk (execC rg mk lp a) a

theorem execC_loop {rg : Nat → Array Oper → Bool → S → Option S} {mk : Code → Option Out → Env → Option Env} {lp : LoopF} {a : Code} {s : S} : execC rg mk lp (.loop a) s = match lp (loopB rg mk lp a) s with
    | some (out, s') => match mk a (some out) s'.1 with
      | some e => some (out, e, s'.2)
      | none => none
    | none => none := by
  simp only [execC]; rfl

def rgT (P : Program) (cf : Cfg) (C : CallF) (base : Nat) (f : FuncId) (_ : Nat) (ops : Array Oper) (_ : Bool) (s : S) : Option S := regionT P cf C base f ops.toList s

theorem regionA_text {f : FuncId} {id : Nat} {ops : Array Oper} {d : Bool} {s : S} (h : codeOk P cf f (.region id ops d) = true) : regionA P cf C base f id ops d s = rgT P cf C base f id ops d s := by
  unfold codeOk at h
  have h' : (!d || regionOk P cf.pure cf.grow (fun t => (cf.vars f).contains t) (baseAt (fun t => (cf.vars f).contains t) (baseOf (fun t => (cf.vars f).contains t) ops.toList [])) ops) = true := h
  unfold regionA rgT regionT
  simp only
  rw [if_pos h']
  have e := runO_eq (P := P) (C := C) (base := base) (isv := isvOf cf f) (bs := baseAt (isvOf cf f) (baseOf (isvOf cf f) ops.toList [])) (ops := ops.toList) (n0 := s.2.length) (rest := ops.toList) (pre := []) (s := (s.1, s.2 ++ List.replicate (ops.toList.countP (allocs (isvOf cf f))) .none)) rfl
  simp only [List.length_nil, List.countP_nil, Nat.add_zero, Array.length_toList] at e
  rw [← e, ← List.range_eq_range']
  rfl

theorem execC_text {f : FuncId} {mk : Code → Option Out → Env → Option Env} {lp : LoopF} : ∀ {c : Code} {s : S}, codeOk P cf f c = true → execC (regionA P cf C base f) mk lp c s = execC (rgT P cf C base f) mk lp c s := by
  intro c
  induction c with
  | region id ops d => intro s h; simp only [execC]; rw [regionA_text h]
  | seq x y ihx ihy =>
    intro s h
    simp only [codeOk, Bool.and_eq_true] at h
    simp only [execC]
    rw [ihx h.1]
    split
    · exact ihy h.2
    · rfl
  | cond c x y ihx ihy =>
    intro s h
    simp only [codeOk, Bool.and_eq_true] at h
    simp only [execC]
    split
    · exact ihx h.1
    · exact ihy h.2
    · rfl
  | block id x ih =>
    intro s h
    simp only [codeOk] at h
    simp only [execC]
    rw [ih h]
  | loop x ih =>
    intro s h
    simp only [codeOk] at h
    rw [execC_loop, execC_loop]
    have e : loopB (regionA P cf C base f) mk lp x = loopB (rgT P cf C base f) mk lp x := by
      funext s
      unfold loopB roundA
      split
      · exact ih h
      · rfl
    rw [e]
  | _ => intro s h; rfl

/-- The frame at the function's entry. -/
def startE (n : Nat) (args : List AV) : Env := args.map .val ++ List.replicate (n - args.length) .und

def mkT (cf : Cfg) (f : FuncId) (c : Code) (o : Option Out) (e : Env) : Option Env := maskA (fun t => (cf.live f c o).contains t) 0 e

theorem maskA_idem {live : Tmp → Bool} : ∀ {env env' : Env} {i : Nat}, maskA live i env = some env' → maskA live i env' = some env'
  | [], env', i, h => by cases h; rfl
  | x :: env, env', i, h => by
    unfold maskA at h
    split at h
    · cases h
    · rename_i e2 h2
      have ih := maskA_idem h2
      split at h
      · rename_i hl
        split at h
        · cases h
        · rename_i hnp
          cases h
          unfold maskA
          rw [ih]
          simp only [hl, if_true]
      · rename_i hl
        cases h
        unfold maskA
        rw [ih]
        simp only
        rw [if_neg hl]

theorem mkT_idem {f : FuncId} {c : Code} {o : Option Out} {e e' : Env} (h : mkT cf f c o e = some e') : mkT cf f c o e' = some e' := maskA_idem h

/-- A loop at its head, the frame masked. -/
noncomputable def loopM (P : Program) (cf : Cfg) (f : FuncId) (base : Nat) (a : Code) (s : S) : Option (Out × S) :=
  match loopL (loopB (rgT P cf (callL P cf) base f) (mkT cf f) loopL a) s with
  | some (out, s') => match mkT cf f a (some out) s'.1 with
    | some e => some (out, e, s'.2)
    | none => none
  | none => none

/-- What comes behind a loop's body. -/
noncomputable def nextM (P : Program) (cf : Cfg) (f : FuncId) (base : Nat) (a : Code) : Option (Out × S) → Option (Out × S)
  | some (.normal, s') => match mkT cf f a none s'.1 with
    | some e => loopM P cf f base a (e, s'.2)
    | none => none
  | some (out, s') => match mkT cf f a (some out) s'.1 with
    | some e => some (out, e, s'.2)
    | none => none
  | none => none

theorem loopL_unfold {b : S → Option (Out × S)} {s : S} : loopL b s = match b s with
    | some (.normal, s') => loopL b s'
    | r => r := by
  cases hb : b s with
  | none =>
    cases hl : loopL b s with
    | none => rfl
    | some r =>
      obtain ⟨n, hn⟩ := loopL_iff.1 hl
      cases n with
      | zero => cases hn
      | succ n => unfold loopN at hn; rw [hb] at hn; cases hn
  | some r =>
    obtain ⟨out, s'⟩ := r
    cases out with
    | normal =>
      simp only
      cases hl : loopL b s' with
      | none =>
        cases hl2 : loopL b s with
        | none => rfl
        | some r =>
          obtain ⟨n, hn⟩ := loopL_iff.1 hl2
          cases n with
          | zero => cases hn
          | succ n =>
            unfold loopN at hn
            rw [hb] at hn
            have := loopL_iff.2 ⟨n, hn⟩
            rw [hl] at this; cases this
      | some r => exact loopL_next hb hl
    | exit i => exact loopL_exit hb
    | ret => exact loopL_ret hb

/-- The head of a loop looks only at what lives there. -/
theorem loopM_mask {f : FuncId} {a : Code} {env : Env} {σ : St} : loopM P cf f base a (env, σ) = match mkT cf f a none env with
    | some e => loopM P cf f base a (e, σ)
    | none => none := by
  cases hm : mkT cf f a none env with
  | none =>
    unfold loopM
    rw [loopL_unfold]
    unfold loopB roundA
    rw [hm]
  | some e =>
    have hb : loopB (rgT P cf (callL P cf) base f) (mkT cf f) loopL a (env, σ) = loopB (rgT P cf (callL P cf) base f) (mkT cf f) loopL a (e, σ) := by
      unfold loopB roundA
      rw [hm, mkT_idem hm]
    simp only
    unfold loopM
    rw [loopL_unfold (s := (env, σ)), hb, ← loopL_unfold]

/-- One round. -/
theorem loopM_step {f : FuncId} {a : Code} {env : Env} {σ : St} (hm : mkT cf f a none env = some env) :
    loopM P cf f base a (env, σ) = nextM P cf f base a (execC (rgT P cf (callL P cf) base f) (mkT cf f) loopL a (env, σ)) := by
  have hb : loopB (rgT P cf (callL P cf) base f) (mkT cf f) loopL a (env, σ) = execC (rgT P cf (callL P cf) base f) (mkT cf f) loopL a (env, σ) := by
    unfold loopB roundA
    rw [hm]
  conv => lhs; unfold loopM
  rw [loopL_unfold, hb]
  cases execC (rgT P cf (callL P cf) base f) (mkT cf f) loopL a (env, σ) with
  | none => rfl
  | some r =>
    obtain ⟨out, env', σ'⟩ := r
    cases out with
    | normal => exact (loopM_mask (P := P) (cf := cf) (f := f) (base := base) (a := a) (env := env') (σ := σ'))
    | exit i => rfl
    | ret => rfl

/-- The loop of a function's code whose first region bears this number. -/
def regOf : Code → Option Nat
  | .region id _ _ => some id
  | .seq a b => match regOf a with
    | some i => some i
    | none => regOf b
  | .cond _ a b => match regOf a with
    | some i => some i
    | none => regOf b
  | .block _ a => regOf a
  | .loop a => regOf a
  | _ => none

def findLoop (r : Nat) : Code → Option Code
  | .seq a b => match findLoop r a with
    | some c => some c
    | none => findLoop r b
  | .cond _ a b => match findLoop r a with
    | some c => some c
    | none => findLoop r b
  | .block _ a => findLoop r a
  | .loop a => if regOf a = some r then some a else findLoop r a
  | _ => none

def loopOf (fn : Func) (r : Nat) : Code := match fn.body with
  | some c => (findLoop r c).getD .skip
  | none => .skip

/-- A masked frame: these slots live. -/
def envOf (n : Nat) (l : List (Nat × AV)) : Env := (List.range n).map fun i => match l.lookup i with
  | some v => .val v
  | none => .top

/-- A function's body, its regions in the text's order, at the limit. -/
noncomputable def bodyT (P : Program) (cf : Cfg) (f : FuncId) (fn : Func) (c : Code) (args : List AV) (σ : St) (base : Nat) : Option (AV × St) :=
  match execC (rgT P cf (callL P cf) base f) (mkT cf f) loopL c (startE fn.ntmps args, σ) with
  | some (.normal, s) | some (.ret, s) => match resOf P s.1 s.2 fn.results.toList with
    | some vs => some (mkRes vs, s.2)
    | none => none
  | _ => none

theorem bodyT_eq {f : FuncId} {fn : Func} {c : Code} {args : List AV} {σ : St} (h : codeOk P cf f c = true) : bodyA P cf (callL P cf) loopL f fn c args σ base = bodyT P cf f fn c args σ base := by
  unfold bodyA bodyT
  rw [execC_text h]
  rfl

/-- A function that may leave objects behind. -/
theorem callL_body {f : FuncId} {fn : Func} {c : Code} {args : List AV} {σ : St} {r : AV × St} (hf : P.funcs[f]? = some fn) (hc : fn.body = some c) (hok : codeOk P cf f c = true) (hpr : cf.prim f = none) (hpu : cf.pure f = false)
    (h : bodyT P cf f fn c args σ (if cf.grow f then σ.length else base) = some r) : callL P cf f args σ base = some r := by
  refine callL_intro ?_
  unfold enterA
  rw [hpr, hf]
  simp only [hc]
  rw [if_neg (by rw [hpu]; simp), bodyT_eq hok]
  exact h

/-- A function that leaves none. -/
theorem callL_pure {f : FuncId} {fn : Func} {c : Code} {args : List AV} {σ σ' : St} {v v' : AV} (hf : P.funcs[f]? = some fn) (hc : fn.body = some c) (hok : codeOk P cf f c = true) (hpr : cf.prim f = none) (hpu : cf.pure f = true) (hne : args ≠ [])
    (h : bodyT P cf f fn c args σ σ.length = some (v, σ')) (hz : freeze σ.length σ' 6 v = some v') : callL P cf f args σ base = some (v', σ) := by
  refine callL_intro ?_
  unfold enterA
  rw [hpr, hf]
  simp only [hc]
  have he : args.isEmpty = false := by cases args with
    | nil => exact absurd rfl hne
    | cons _ _ => rfl
  rw [if_pos hpu, he]
  simp only [Bool.false_eq_true, if_false]
  rw [bodyT_eq hok, h]
  simp only [hz]

/-- A function without arguments that leaves none. -/
theorem callL_nullary {f : FuncId} {fn : Func} {c : Code} {σ σ' : St} {v v' : AV} (hf : P.funcs[f]? = some fn) (hc : fn.body = some c) (hok : codeOk P cf f c = true) (hpr : cf.prim f = none) (hpu : cf.pure f = true)
    (h : bodyT P cf f fn c [] [] 0 = some (v, σ')) (hz : freeze 0 σ' 6 v = some v') : callL P cf f [] σ base = some (v', σ) := by
  refine callL_intro ?_
  unfold enterA
  rw [hpr, hf]
  simp only [hc]
  rw [if_pos hpu]
  simp only [List.isEmpty_nil, if_true, List.length_nil]
  rw [bodyT_eq hok, h]
  simp only [hz]

end

/-! Slices, however they lie. -/

/-- 'a' is a slice of these elements, each of 'sz' cells. -/
structure Sl (σ : St) (sz : Nat) (a : AV) (xs : List AV) : Prop where
  el : elems σ sz a = some xs
  len : lenS a = some xs.length

theorem Sl.v {σ : St} {sz : Nat} {a : AV} {xs : List AV} (h : Sl σ sz a xs) : (Slot.val a).v = some a := by
  have := h.len
  cases a <;> first | rfl | cases this

theorem Sl.cells {σ : St} {sz : Nat} {a : AV} {xs : List AV} (h : Sl σ sz a xs) : a.cells = [a] := by
  have := h.len
  cases a <;> first | rfl | cases this

theorem Sl.list {σ : St} {sz : Nat} {f : Bool} (xs : List AV) : Sl σ sz (.list f sz xs) xs := ⟨by simp [elems], rfl⟩

theorem Sl.nil {σ : St} {sz : Nat} {f : Bool} (s : Nat) : Sl σ sz (.list f s []) [] := ⟨by simp [elems], rfl⟩

theorem Sl.row {σ : St} {sz id : Nat} {xs : List AV} (h : σ[id]? = some (.row sz xs)) (lim : Bool) : Sl σ sz (.row sz id xs.length 0 xs.length lim) xs := ⟨by simp [elems, h], rfl⟩

/-- No slice whose room ends with it. -/
def NL (a : AV) : Prop := ∀ sz id gen off len, a ≠ .row sz id gen off len true

theorem NL.list {f : Bool} {s : Nat} {xs : List AV} : NL (.list f s xs) := fun _ _ _ _ _ h => by cases h

/-- 's[lo:hi]'. -/
theorem Sl.slice {σ : St} {sz : Nat} {a : AV} {xs : List AV} (h : Sl σ sz a xs) (hn : NL a) {l k : Nat} (h1 : l ≤ k) (h2 : k ≤ xs.length) {lo hi : Option Int} (hlo : lo.getD 0 = l) (hhi : hi.getD xs.length = k) :
    ∃ v, sliceOf sz a lo hi none = some v ∧ Sl σ sz v ((xs.drop l).take (k - l)) ∧ NL v := by
  have hl := h.len
  have he := h.el
  cases a with
  | list f s ys =>
    simp only [lenS, Option.some.injEq] at hl
    simp only [elems] at he
    split at he
    · rename_i hs
      cases he
      simp only [sliceOf, hs, if_true, hhi, hlo]
      rw [if_pos ⟨by omega, by omega, by omega⟩]
      refine ⟨_, rfl, ⟨?_, ?_⟩, NL.list⟩
      · simp only [elems, Int.toNat_natCast]
        split
        · rfl
        · rename_i hno
          exfalso
          apply hno
          rw [Bool.or_eq_true] at hs
          rcases hs with h5 | h5
          · rw [h5]; rfl
          · have : xs = [] := by simpa using h5
            subst this
            simp
      · simp only [lenS, Int.toNat_natCast]
    · cases he
  | row s id gen off len lim =>
    simp only [lenS, Option.some.injEq] at hl
    subst hl
    have hlim : lim = false := by
      cases lim with
      | false => rfl
      | true => exact absurd rfl (hn _ _ _ _ _)
    subst hlim
    simp only [elems] at he
    split at he
    · rename_i s2 ys hob
      split at he
      · rename_i hc
        simp only [Bool.and_eq_true, beq_iff_eq] at hc
        obtain ⟨rfl, hgen⟩ := hc
        simp only [Option.some.injEq] at he
        simp only [sliceOf, beq_self_eq_true, if_true, hhi, hlo]
        rw [if_pos ⟨by omega, by omega, by omega⟩]
        simp only [Bool.false_and, Bool.false_eq_true, if_false, Int.toNat_natCast]
        refine ⟨_, rfl, ⟨?_, ?_⟩, fun _ _ _ _ _ e => by cases e⟩
        · simp only [elems, hob, beq_self_eq_true, Bool.true_and, hgen, if_true]
          rw [← he]
          simp only [List.drop_take, List.take_take, List.drop_drop, Option.some.injEq]
          congr 1
          omega
        · simp only [lenS, List.length_take, List.length_drop]
          congr 1
          omega
      · cases he
    · cases he
  | _ => cases hl

/-- It stands in a heap that goes on from this one. -/
theorem Sl.keep {σ σ' : St} {sz : Nat} {a : AV} {xs : List AV} {b : Nat} (h : Sl σ sz a xs) (hk : Keep b σ σ') (hb : ∀ id, (∃ sz gen off len lim, a = .row sz id gen off len lim) → id < b) : Sl σ' sz a xs := by
  refine ⟨?_, h.len⟩
  have := h.el
  cases a with
  | row s id gen off len lim =>
    simp only [elems] at this ⊢
    rw [hk.2 id (hb id ⟨_, _, _, _, _, rfl⟩)]
    exact this
  | _ => exact this

end Go.Can

namespace Go.Can
open Go

section lists
variable {α : Type} {a a0 a1 a2 a3 a4 a5 a6 a7 v : α} {l : List α} {n : Nat}
@[go_sem] theorem x_get0 : (a :: l)[0]? = some a := rfl
@[go_sem] theorem x_get1 : (a0 :: a1 :: l)[1]? = some a1 := rfl
@[go_sem] theorem x_get2 : (a0 :: a1 :: a2 :: l)[2]? = some a2 := rfl
@[go_sem] theorem x_get3 : (a0 :: a1 :: a2 :: a3 :: l)[3]? = some a3 := rfl
@[go_sem] theorem x_get4 : (a0 :: a1 :: a2 :: a3 :: a4 :: l)[4]? = some a4 := rfl
@[go_sem] theorem x_get5 : (a0 :: a1 :: a2 :: a3 :: a4 :: a5 :: l)[5]? = some a5 := rfl
@[go_sem] theorem x_get6 : (a0 :: a1 :: a2 :: a3 :: a4 :: a5 :: a6 :: l)[6]? = some a6 := rfl
@[go_sem] theorem x_get7 : (a0 :: a1 :: a2 :: a3 :: a4 :: a5 :: a6 :: a7 :: l)[7]? = some a7 := rfl
@[go_sem] theorem x_get8 : (a0 :: a1 :: a2 :: a3 :: a4 :: a5 :: a6 :: a7 :: l)[n + 8]? = l[n]? := rfl
@[go_sem] theorem x_set0 : (a :: l).set 0 v = v :: l := rfl
@[go_sem] theorem x_set1 : (a0 :: a1 :: l).set 1 v = a0 :: v :: l := rfl
@[go_sem] theorem x_set2 : (a0 :: a1 :: a2 :: l).set 2 v = a0 :: a1 :: v :: l := rfl
@[go_sem] theorem x_set3 : (a0 :: a1 :: a2 :: a3 :: l).set 3 v = a0 :: a1 :: a2 :: v :: l := rfl
@[go_sem] theorem x_set4 : (a0 :: a1 :: a2 :: a3 :: a4 :: l).set 4 v = a0 :: a1 :: a2 :: a3 :: v :: l := rfl
@[go_sem] theorem x_set5 : (a0 :: a1 :: a2 :: a3 :: a4 :: a5 :: l).set 5 v = a0 :: a1 :: a2 :: a3 :: a4 :: v :: l := rfl
@[go_sem] theorem x_set6 : (a0 :: a1 :: a2 :: a3 :: a4 :: a5 :: a6 :: l).set 6 v = a0 :: a1 :: a2 :: a3 :: a4 :: a5 :: v :: l := rfl
@[go_sem] theorem x_set7 : (a0 :: a1 :: a2 :: a3 :: a4 :: a5 :: a6 :: a7 :: l).set 7 v = a0 :: a1 :: a2 :: a3 :: a4 :: a5 :: a6 :: v :: l := rfl
@[go_sem] theorem x_set8 : (a0 :: a1 :: a2 :: a3 :: a4 :: a5 :: a6 :: a7 :: l).set (n + 8) v = a0 :: a1 :: a2 :: a3 :: a4 :: a5 :: a6 :: a7 :: l.set n v := rfl
@[go_sem] theorem x_rep0 : List.replicate 0 a = [] := rfl
@[go_sem] theorem x_repS : List.replicate (n + 1) a = a :: List.replicate n a := rfl
@[go_sem] theorem x_app0 {m : List α} : [] ++ m = m := rfl
@[go_sem] theorem x_appS {m : List α} : (a :: l) ++ m = a :: (l ++ m) := rfl
@[go_sem] theorem x_appN {m : List α} : m ++ [] = m := List.append_nil m
@[go_sem] theorem x_len0 : ([] : List α).length = 0 := rfl
@[go_sem] theorem x_lenS : (a :: l).length = l.length + 1 := rfl
@[go_sem] theorem x_map0 {β : Type} {f : α → β} : List.map f [] = [] := rfl
@[go_sem] theorem x_mapS {β : Type} {f : α → β} : List.map f (a :: l) = f a :: List.map f l := rfl
@[go_sem] theorem x_cnt0 {p : α → Bool} : List.countP p [] = 0 := rfl
@[go_sem] theorem x_cntS {p : α → Bool} : List.countP p (a :: l) = if p a then List.countP p l + 1 else List.countP p l := by
  rw [List.countP_cons]; split <;> simp_all
@[go_sem] theorem x_toList {l : List α} : (l.toArray).toList = l := rfl
@[go_sem] theorem x_size {l : List α} : (l.toArray).size = l.length := rfl
@[go_sem] theorem x_aget {l : List α} : (l.toArray)[n]? = l[n]? := by simp
end lists

@[go_sem] theorem x_con0 {n : Nat} : ([] : List Nat).contains n = false := rfl
@[go_sem] theorem x_conS {n m : Nat} {l : List Nat} : (m :: l).contains n = (n == m || l.contains n) := List.contains_cons

@[go_sem] theorem x_lk0 {β : Type} {n : Nat} : List.lookup n ([] : List (Nat × β)) = none := rfl
@[go_sem] theorem x_lkS {β : Type} {n a : Nat} {b : β} {l : List (Nat × β)} : List.lookup n ((a, b) :: l) = if n == a then some b else List.lookup n l := by
  rw [List.lookup_cons]; split <;> simp_all
@[go_sem] theorem x_nn : ((none : Option Nat) == none) = true := rfl
@[go_sem] theorem x_ns {n : Nat} : ((none : Option Nat) == some n) = false := rfl
@[go_sem] theorem x_sn {n : Nat} : (some n == (none : Option Nat)) = false := rfl
@[go_sem] theorem x_ss {n m : Nat} : (some n == some m) = (n == m) := rfl
@[go_sem] theorem x_eqK {k : IntKind} : (k = k) = True := eq_self k
@[go_sem] theorem x_eqI {a : Int} : (a = a) = True := eq_self a
@[go_sem] theorem x_ltI {a : Int} : (a < a) = False := by simp
@[go_sem] theorem x_natI {n : Nat} : ((0 : Int) ≤ (n : Int)) = True := by simp
@[go_sem] theorem x_toN {n : Nat} : ((n : Int)).toNat = n := Int.toNat_natCast n
@[go_sem] theorem x_notF : (¬ False) = True := by simp
@[go_sem] theorem x_notT : (¬ True) = False := by simp
@[go_sem] theorem x_isN {α : Type} : (none : Option α).isSome = false := rfl
@[go_sem] theorem x_isS {α : Type} {n : α} : (some n).isSome = true := rfl
@[go_sem] theorem x_pos {n : Nat} : (0 < n + 1) = True := by simp
@[go_sem] theorem x_list0 {sz n : Nat} : listA sz n [] = some [] := rfl
@[go_sem] theorem x_listS {sz n i : Nat} {v : AV} {ps : List (Nat × AV)} : listA sz n ((i, v) :: ps) = if i == n && v.cells.length == sz then (listA sz (n + 1) ps).map (v :: ·) else none := rfl
@[go_sem] theorem x_elemL {σ : St} {sz : Nat} {f : Bool} {xs : List AV} : elems σ sz (.list f sz xs) = some xs := by simp [elems]
@[go_sem] theorem x_lenL {f : Bool} {sz : Nat} {xs : List AV} : lenS (.list f sz xs) = some xs.length := rfl
@[go_sem] theorem x_lenR {sz id gen off len : Nat} {lim : Bool} : lenS (.row sz id gen off len lim) = some len := rfl
@[go_sem] theorem x_bindS {α β : Type} {a : α} {f : α → Option β} : (some a).bind f = f a := rfl
@[go_sem] theorem x_bindN {α β : Type} {f : α → Option β} : (none : Option α).bind f = none := rfl

@[go_sem] theorem x_beqI {a b : Int} : (a == b) = decide (a = b) := by by_cases h : a = b <;> simp [h]
@[go_sem] theorem x_bneI {a b : Int} : (a != b) = !decide (a = b) := by by_cases h : a = b <;> simp [h]
@[go_sem] theorem x_or_true {b : Bool} : (true || b) = true := rfl
@[go_sem] theorem x_or_false {b : Bool} : (false || b) = b := rfl
@[go_sem] theorem x_and_true {b : Bool} : (true && b) = b := rfl
@[go_sem] theorem x_and_false {b : Bool} : (false && b) = false := rfl
@[go_sem] theorem x_or_true' {b : Bool} : (b || true) = true := by cases b <;> rfl
@[go_sem] theorem x_or_false' {b : Bool} : (b || false) = b := by cases b <;> rfl
@[go_sem] theorem x_and_true' {b : Bool} : (b && true) = b := by cases b <;> rfl
@[go_sem] theorem x_and_false' {b : Bool} : (b && false) = false := by cases b <;> rfl
@[go_sem] theorem x_not_true : (!true) = false := rfl
@[go_sem] theorem x_not_false : (!false) = true := rfl
@[go_sem] theorem x_tt : (true = true) = True := eq_self true
@[go_sem] theorem x_ff : (false = true) = False := by simp
@[go_sem] theorem x_iteT {α : Type} {a b : α} {inst : Decidable True} : (@ite α True inst a b) = a := if_pos trivial
@[go_sem] theorem x_iteF {α : Type} {a b : α} {inst : Decidable False} : (@ite α False inst a b) = b := if_neg id
@[go_sem] theorem x_andT {p : Prop} : (True ∧ p) = p := true_and p
@[go_sem] theorem x_andT' {p : Prop} : (p ∧ True) = p := and_true p
@[go_sem] theorem x_decT {inst : Decidable True} : @decide True inst = true := decide_eq_true trivial
@[go_sem] theorem x_decF {inst : Decidable False} : @decide False inst = false := decide_eq_false id
@[go_sem] theorem x_beqB {b : Bool} : (b == true) = b := by cases b <;> rfl
@[go_sem] theorem x_beqB' {b : Bool} : (b == false) = !b := by cases b <;> rfl

def placesT (P : Program) (t : TypeId) : Option (List (Option (Nat × Nat)) × List AV) := match P.underlying t, zeroOf P t with
  | some (.struct fs), some z => if fs.toList.all fun f => (szOf P f.type).isSome then some (fs.toList.map fun f => (szOf P f.type).map fun s => (f.offset, s), z.cells) else none
  | _, _ => none

theorem buildA_struct {P : Program} {t : TypeId} {pl : List (Option (Nat × Nat))} {z : List AV} {ps : List (Nat × AV)} (h : placesT P t = some (pl, z)) : buildA P t ps = (fillA (fun i => (pl[i]?).join) z ps).map .agg := by
  unfold placesT at h
  unfold buildA
  split at h
  · rename_i fs z' h1 h2
    split at h
    · rename_i hall
      cases h
      rw [h1, h2]
      simp only
      rw [if_pos hall]
      congr 2
      funext i
      unfold placeA
      rw [List.getElem?_map, Array.getElem?_toList]
      cases fs[i]? <;> rfl
    · cases h
  · cases h

section heap
variable {α : Type} {s l : List α} {x : α} {k : Nat}
@[go_sem] theorem x_lenApp {m : List α} : (s ++ m).length = s.length + m.length := List.length_append
@[go_sem] theorem x_appA {m : List α} : (s ++ l) ++ m = s ++ (l ++ m) := List.append_assoc _ _ _
@[go_sem] theorem x_getApp : (s ++ l)[s.length + k]? = l[k]? := by rw [List.getElem?_append_right (by omega)]; congr 1; omega
@[go_sem] theorem x_getApp0 : (s ++ l)[s.length]? = l[0]? := by rw [List.getElem?_append_right (by omega)]; simp
@[go_sem] theorem x_setApp : (s ++ l).set (s.length + k) x = s ++ l.set k x := by rw [List.set_append_right _ _ (by omega)]; congr 2; omega
@[go_sem] theorem x_setApp0 : (s ++ l).set s.length x = s ++ l.set 0 x := by rw [List.set_append_right _ _ (by omega)]; simp
@[go_sem] theorem x_leA {n : Nat} : (n ≤ n + k) = True := by simp
@[go_sem] theorem x_le0 {n : Nat} : (n ≤ n) = True := by simp
@[go_sem] theorem x_addZ {n : Nat} : n + 0 = n := rfl
end heap
@[go_sem] theorem x_fresh {σ : St} {n : Nat} : fresh σ n = match σ[n]? with
    | some .none => true
    | _ => false := rfl

theorem append_fresh {base : Nat} {σ : St} {sz bytes s : Nat} {ys : List AV} (h : ys.length * bytes ≤ 140737488355328) (hs : 0 < sz) :
    appendTo base σ sz bytes (.list true s []) ys = some (.row sz σ.length ys.length 0 ys.length false, σ ++ [.row sz ys]) := by simp [appendTo, h, hs]

theorem append_row {base id : Nat} {σ : St} {sz bytes : Nat} {xs ys : List AV} (hob : σ[id]? = some (.row sz xs)) (hb : base ≤ id) (h : (xs.length + ys.length) * bytes ≤ 140737488355328) (hs : 0 < sz) :
    appendTo base σ sz bytes (.row sz id xs.length 0 xs.length false) ys = some (.row sz id (xs.length + ys.length) 0 (xs.length + ys.length) false, σ.set id (.row sz (xs ++ ys))) := by
  simp [appendTo, hob, hb, h, hs]

@[go_sem] theorem x_fill0 {place : Nat → Option (Nat × Nat)} {cs : List AV} : fillA place cs [] = some cs := rfl
@[go_sem] theorem x_fillS {place : Nat → Option (Nat × Nat)} {cs : List AV} {i : Nat} {v : AV} {rest : List (Nat × AV)} : fillA place cs ((i, v) :: rest) = match place i with
    | none => none
    | some (off, size) => if v.cells.length == size then
        match splice cs off v.cells with
        | some cs => fillA place cs rest
        | none => none
      else none := rfl
@[go_sem] theorem x_getD {α : Type} {a b : α} : (some a).getD b = a := rfl
@[go_sem] theorem x_join {α : Type} {a : Option α} : (some a).join = a := rfl
@[go_sem] theorem x_map {α β : Type} {a : α} {f : α → β} : (some a).map f = some (f a) := rfl
@[go_sem] theorem x_mapN {α β : Type} {f : α → β} : (none : Option α).map f = none := rfl
@[go_sem] theorem x_splN {cs : List AV} : splice cs 0 [] = some cs := by simp [splice]
@[go_sem] theorem x_spl0 {c v : AV} {cs vs : List AV} : splice (c :: cs) 0 (v :: vs) = (splice cs 0 vs).map (v :: ·) := by
  unfold splice
  simp only [List.length_cons]
  by_cases h : vs.length ≤ cs.length
  · rw [if_pos (by omega), if_pos (by omega)]
    simp
  · rw [if_neg (by omega), if_neg (by omega)]; rfl
@[go_sem] theorem x_splS {c : AV} {cs vs : List AV} {n : Nat} : splice (c :: cs) (n + 1) vs = (splice cs n vs).map (c :: ·) := by
  unfold splice
  simp only [List.length_cons, List.take_succ_cons]
  by_cases h : n + vs.length ≤ cs.length
  · rw [if_pos (by omega), if_pos (by omega)]
    have : n + 1 + vs.length = (n + vs.length) + 1 := by omega
    simp [this]
  · rw [if_neg (by omega), if_neg (by omega)]; rfl
@[go_sem] theorem x_cast0 : ((0 : Nat) : Int) = 0 := rfl
@[go_sem] theorem x_cInt {k n} : (AV.int k n).cells = [AV.int k n] := rfl
@[go_sem] theorem x_cBool {b} : (AV.bool b).cells = [AV.bool b] := rfl
@[go_sem] theorem x_cStr {b} : (AV.str b).cells = [AV.str b] := rfl
@[go_sem] theorem x_cList {f s b} : (AV.list f s b).cells = [AV.list f s b] := rfl
@[go_sem] theorem x_cRow {a b c d e f} : (AV.row a b c d e f).cells = [AV.row a b c d e f] := rfl
@[go_sem] theorem x_cAgg {b} : (AV.agg b).cells = b := rfl
@[go_sem] theorem x_cFn {a b c} : (AV.fn a b c).cells = [AV.fn a b c] := rfl
@[go_sem] theorem x_cMap {a} : (AV.map a).cells = [AV.map a] := rfl
@[go_sem] theorem x_cPtr {a b} : (AV.ptr a b).cells = [AV.ptr a b] := rfl
@[go_sem] theorem x_take0 {α : Type} {l : List α} : List.take 0 l = [] := rfl
@[go_sem] theorem x_takeS {α : Type} {n : Nat} {a : α} {l : List α} : List.take (n + 1) (a :: l) = a :: List.take n l := rfl
@[go_sem] theorem x_drop0 {α : Type} {l : List α} : List.drop 0 l = l := rfl
@[go_sem] theorem x_dropS {α : Type} {n : Nat} {a : α} {l : List α} : List.drop (n + 1) (a :: l) = List.drop n l := rfl

@[go_sem] theorem x_fzA {n k : Nat} {σ : St} {cs : List AV} : freeze n σ (k + 1) (.agg cs) = (freezeL (freeze n σ k) cs).map .agg := rfl
@[go_sem] theorem x_fzT {n k : Nat} {σ : St} {cs : List AV} : freeze n σ (k + 1) (.tup cs) = (freezeL (freeze n σ k) cs).map .tup := rfl
@[go_sem] theorem x_fzI {n k : Nat} {σ : St} {kd : IntKind} {q : Int} : freeze n σ (k + 1) (.int kd q) = some (.int kd q) := rfl
@[go_sem] theorem x_fzB {n k : Nat} {σ : St} {b : Bool} : freeze n σ (k + 1) (.bool b) = some (.bool b) := rfl
@[go_sem] theorem x_fzL0 {f : AV → Option AV} : freezeL f [] = some [] := rfl
@[go_sem] theorem x_fzLS {f : AV → Option AV} {v : AV} {vs : List AV} : freezeL f (v :: vs) = match f v, freezeL f vs with
    | some a, some as => some (a :: as)
    | _, _ => none := rfl
@[go_sem] theorem x_mask0 {live : Tmp → Bool} {i : Nat} : maskA live i [] = some [] := rfl
@[go_sem] theorem x_maskS {live : Tmp → Bool} {i : Nat} {s : Slot} {env : Env} : maskA live i (s :: env) = match maskA live (i + 1) env with
    | none => none
    | some env' => if live i then match s with
        | .plc _ _ => none
        | s => some (s :: env')
      else some (.top :: env') := rfl

@[go_sem] theorem v_int {k n} : (Slot.val (.int k n)).v = some (.int k n) := rfl
@[go_sem] theorem v_bool {b} : (Slot.val (.bool b)).v = some (.bool b) := rfl
@[go_sem] theorem v_str {b} : (Slot.val (.str b)).v = some (.str b) := rfl
@[go_sem] theorem v_agg {b} : (Slot.val (.agg b)).v = some (.agg b) := rfl
@[go_sem] theorem v_list {f s b} : (Slot.val (.list f s b)).v = some (.list f s b) := rfl
@[go_sem] theorem v_row {a b c d e f} : (Slot.val (.row a b c d e f)).v = some (.row a b c d e f) := rfl
@[go_sem] theorem v_fn {a b c} : (Slot.val (.fn a b c)).v = some (.fn a b c) := rfl
@[go_sem] theorem v_map {a} : (Slot.val (.map a)).v = some (.map a) := rfl
@[go_sem] theorem v_ptr {a b} : (Slot.val (.ptr a b)).v = some (.ptr a b) := rfl
@[go_sem] theorem v_elm {a b c d} : (Slot.val (.elm a b c d)).v = some (.elm a b c d) := rfl
@[go_sem] theorem v_nilp : (Slot.val .nilp).v = some .nilp := rfl
@[go_sem] theorem v_nilf : (Slot.val .nilf).v = some .nilf := rfl
@[go_sem] theorem v_nili : (Slot.val .nili).v = some .nili := rfl

section
variable {P : Program} {C : CallF} {base nid : Nat} {isv : Tmp → Bool} {bs : Tmp → Option Tmp} {ops rest : List Oper} {o : Oper} {env : Env} {σ : St}

@[go_sem] theorem x_run0 : runO P C base isv bs ops [] nid (env, σ) = some (env, σ) := rfl
@[go_sem] theorem x_runS : runO P C base isv bs ops (o :: rest) nid (env, σ) = match stepO P C base isv bs ops nid o (env, σ) with
    | some s' => runO P C base isv bs ops rest (if allocs isv o then nid + 1 else nid) s'
    | none => none := rfl
end

section
variable {rg : Nat → Array Oper → Bool → S → Option S} {mk : Code → Option Out → Env → Option Env} {lp : LoopF} {env : Env} {σ : St}
@[go_sem] theorem x_skip : execC rg mk lp .skip (env, σ) = some (.normal, env, σ) := rfl
@[go_sem] theorem x_label {l} : execC rg mk lp (.label l) (env, σ) = some (.normal, env, σ) := rfl
@[go_sem] theorem x_ret : execC rg mk lp .ret (env, σ) = some (.ret, env, σ) := rfl
@[go_sem] theorem x_exit {i} : execC rg mk lp (.exit i) (env, σ) = some (.exit i, env, σ) := rfl
@[go_sem] theorem x_region {i ops d} : execC rg mk lp (.region i ops d) (env, σ) = match rg i ops d (env, σ) with
    | some s' => some (.normal, s')
    | none => none := rfl
@[go_sem] theorem x_seq {a b} : execC rg mk lp (.seq a b) (env, σ) = match execC rg mk lp a (env, σ) with
    | some (.normal, s') => execC rg mk lp b s'
    | r => r := rfl
@[go_sem] theorem x_cond {c a b} : execC rg mk lp (.cond c a b) (env, σ) = match lookV env c with
    | some (.bool true) => execC rg mk lp a (env, σ)
    | some (.bool false) => execC rg mk lp b (env, σ)
    | _ => none := rfl
@[go_sem] theorem x_block {i a} : execC rg mk lp (.block i a) (env, σ) = match execC rg mk lp a (env, σ) with
    | some (.exit j, s') => if j = i then some (.normal, s') else some (.exit j, s')
    | r => r := rfl
end

@[go_sem] theorem x_loop {P : Program} {cf : Cfg} {base : Nat} {f : FuncId} {a : Code} {env : Env} {σ : St} : execC (rgT P cf (callL P cf) base f) (mkT cf f) loopL (.loop a) (env, σ) = match mkT cf f a none env with
    | some e => loopM P cf f base a (e, σ)
    | none => none := execC_loop.trans (loopM_mask (P := P) (cf := cf) (base := base) (f := f) (a := a) (env := env) (σ := σ))

section
variable {P : Program} {cf : Cfg} {base : Nat} {f : FuncId} {a : Code} {env : Env} {σ : St}
@[go_sem] theorem x_nextN : nextM P cf f base a (some (.normal, env, σ)) = match mkT cf f a none env with
    | some e => loopM P cf f base a (e, σ)
    | none => none := rfl
@[go_sem] theorem x_nextE {i : Nat} : nextM P cf f base a (some (.exit i, env, σ)) = match mkT cf f a (some (.exit i)) env with
    | some e => some (.exit i, e, σ)
    | none => none := rfl
@[go_sem] theorem x_nextR : nextM P cf f base a (some (.ret, env, σ)) = match mkT cf f a (some .ret) env with
    | some e => some (.ret, e, σ)
    | none => none := rfl
end

@[go_sem] theorem x_ldOk {isv : Tmp → Bool} {d : Option Tmp} {s : Slot} : ldOk isv d s = (!isv? isv d || s.isPtr) := rfl
@[go_sem] theorem x_isPtr {i o : Nat} : (Slot.val (.ptr i o)).isPtr = true := rfl

end Go.Can
