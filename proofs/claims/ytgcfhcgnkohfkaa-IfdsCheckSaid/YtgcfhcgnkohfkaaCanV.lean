/- The evaluator without fuel: the limit of the evaluators with fuel, and its own law. -/
import Derived.Test.YtgcfhcgnkohfkaaCanU
set_option linter.unusedSimpArgs false
set_option linter.unusedVariables false
namespace Go.Can
open Go Go.RowKit

/-- What the one answers, the other answers too. -/
def Leq {α β : Type} (f g : α → Option β) : Prop := ∀ a b, f a = some b → g a = some b
def LeqC (C C' : CallF) : Prop := ∀ f args σ base r, C f args σ base = some r → C' f args σ base = some r

section
variable {P : Program} {C C' : CallF} {cf : Cfg}

theorem evalV_mono (hC : LeqC C C') {base nid : Nat} {isv : Tmp → Bool} {bs : Tmp → Option Tmp} {env : Env} {σ : St} {o : Oper} {r : St × Slot} (h : evalV P C base isv bs nid env σ o = some r) : evalV P C' base isv bs nid env σ o = some r := by
  unfold evalV at h ⊢
  cases ho : o.op <;> simp only [ho] at h ⊢ <;> try exact h
  case makeFunc fn fi ca => cases fn <;> exact h
  case makeMap t r => cases r <;> exact h
  case call c =>
    split at h
    · rename_i args ha
      split at h
      · rename_i hb; exact h
      · split at h
        · rename_i hv
          split at h
          · rename_i hc; rw [hC _ _ _ _ _ hc]; exact h
          · cases h
        · cases h
      · cases h
    · cases h

theorem evalOp_mono (hC : LeqC C C') {base nid : Nat} {isv : Tmp → Bool} {bs : Tmp → Option Tmp} {env : Env} {σ : St} {o : Oper} {r : Env × St × Slot} (h : evalOp P C base isv bs nid env σ o = some r) : evalOp P C' base isv bs nid env σ o = some r := by
  unfold evalOp at h ⊢
  split at h
  · exact h
  · split at h
    · rename_i hv; rw [evalV_mono hC hv]; exact h
    · cases h

theorem stepA_mono (hC : LeqC C C') {base n0 i : Nat} {isv : Tmp → Bool} {bs : Tmp → Option Tmp} {ops : List Oper} {s m : S} (h : stepA P C base isv bs ops n0 i s = some m) : stepA P C' base isv bs ops n0 i s = some m := by
  unfold stepA at h ⊢
  split at h
  · exact h
  · split at h
    · rename_i hd
      rw [if_pos hd]
      split at h
      · split at h
        · rename_i hv; rw [evalOp_mono hC hv]; exact h
        · cases h
      · exact h
      · cases h
    · cases h

theorem runA_mono {st st' : Nat → S → Option S} (hs : ∀ i, Leq (st i) (st' i)) : ∀ {l : List Nat} {s m : S}, runA st l s = some m → runA st' l s = some m
  | [], s, m, h => h
  | i :: l, s, m, h => by
    unfold runA at h ⊢
    split at h
    · rename_i s1 h1; rw [hs i _ _ h1]; exact runA_mono hs h
    · cases h

theorem regionA_mono (hC : LeqC C C') {base : Nat} {f : FuncId} {id : Nat} {ops : Array Oper} {d : Bool} : Leq (regionA P cf C base f id ops d) (regionA P cf C' base f id ops d) := by
  intro s m h
  unfold regionA at h ⊢
  simp only at h ⊢
  split at h
  · rename_i hok
    rw [if_pos hok]
    split at h
    · rename_i env σ hr; rw [runA_mono (fun i s m h => stepA_mono hC h) hr]; exact h
    · cases h
  · cases h

abbrev LoopF := (S → Option (Out × S)) → S → Option (Out × S)

theorem round_mono {mk : Code → Option Out → Env → Option Env} {a : Code} {ex ex' : S → Option (Out × S)} (h : Leq ex ex') : Leq (roundA mk ex a) (roundA mk ex' a) := by
  intro s r hr
  unfold roundA at hr ⊢
  split at hr
  · exact h _ _ hr
  · cases hr

theorem execC_mono {rg rg' : Nat → Array Oper → Bool → S → Option S} {mk : Code → Option Out → Env → Option Env} {lp lp' : LoopF} (hr : ∀ id ops d, Leq (rg id ops d) (rg' id ops d)) (hl : ∀ b b', Leq b b' → Leq (lp b) (lp' b')) :
    ∀ c, Leq (execC rg mk lp c) (execC rg' mk lp' c) := by
  intro c
  induction c with
  | skip => intro s r h; exact h
  | label l => intro s r h; exact h
  | exit l => intro s r h; exact h
  | ret => intro s r h; exact h
  | region id ops d =>
    intro s r h
    unfold execC at h ⊢
    split at h
    · rename_i h1; rw [hr _ _ _ _ _ h1]; exact h
    · cases h
  | seq x y ihx ihy =>
    intro s r h
    unfold execC at h ⊢
    split at h
    · rename_i h1; rw [ihx _ _ h1]; exact ihy _ _ h
    · rename_i hne
      rw [ihx _ _ h]
      obtain ⟨out, s'⟩ := r
      cases out with
      | normal => exact absurd h (hne s')
      | exit i => rfl
      | ret => rfl
  | cond c x y ihx ihy =>
    intro s r h
    unfold execC at h ⊢
    split at h
    · exact ihx _ _ h
    · exact ihy _ _ h
    · cases h
  | block id x ih =>
    intro s r h
    unfold execC at h ⊢
    split at h
    · rename_i i s1 h1; rw [ih _ _ h1]; exact h
    · rename_i hne
      rw [ih _ _ h]
      obtain ⟨out, s'⟩ := r
      cases out with
      | normal => rfl
      | exit i => exact absurd h (hne i s')
      | ret => rfl
  | loop x ih =>
    intro s r h
    unfold execC at h ⊢
    split at h
    · rename_i out1 s1 h0
      rw [hl _ _ (round_mono ih) _ _ h0]
      exact h
    · cases h
  | _ => intro s r h; cases h

theorem bodyA_mono (hC : LeqC C C') {lp lp' : LoopF} (hl : ∀ b b', Leq b b' → Leq (lp b) (lp' b')) {f : FuncId} {fn : Func} {c : Code} {args : List AV} {σ : St} {base : Nat} {r : AV × St} (h : bodyA P cf C lp f fn c args σ base = some r) :
    bodyA P cf C' lp' f fn c args σ base = some r := by
  unfold bodyA at h ⊢
  split at h
  · rename_i s1 h1; rw [execC_mono (fun id ops d => regionA_mono hC) hl c _ _ h1]; exact h
  · rename_i s1 h1; rw [execC_mono (fun id ops d => regionA_mono hC) hl c _ _ h1]; exact h
  · cases h

theorem enterA_mono (hC : LeqC C C') {lp lp' : LoopF} (hl : ∀ b b', Leq b b' → Leq (lp b) (lp' b')) : LeqC (enterA P cf C lp) (enterA P cf C' lp') := by
  intro f args σ base r h
  unfold enterA at h ⊢
  split at h
  · exact h
  · split at h
    · split at h
      · split at h
        · rename_i hp
          rw [if_pos hp]
          split at h
          · rename_i v s1 hb; rw [bodyA_mono hC hl hb]; exact h
          · cases h
        · rename_i hp
          rw [if_neg hp]
          exact bodyA_mono hC hl h
      · cases h
    · cases h

theorem loopN_mono {b b' : S → Option (Out × S)} (hb : Leq b b') : ∀ {n m : Nat}, n ≤ m → Leq (loopN b n) (loopN b' m)
  | 0, m, _, s, r, h => by cases h
  | n + 1, 0, hm, s, r, h => by omega
  | n + 1, m + 1, hm, s, r, h => by
    unfold loopN at h ⊢
    split at h
    · rename_i s1 h1; rw [hb _ _ h1]; exact loopN_mono hb (Nat.le_of_succ_le_succ hm) _ _ h
    · rename_i hne
      rw [hb _ _ h]
      obtain ⟨out, s'⟩ := r
      cases out with
      | normal => exact absurd h (hne s')
      | exit i => rfl
      | ret => rfl

theorem callN_succ_le : ∀ n, LeqC (callN P cf n) (callN P cf (n + 1))
  | 0 => fun _ _ _ _ _ h => by cases h
  | n + 1 => enterA_mono (callN_succ_le n) (fun b b' hb => loopN_mono hb (Nat.le_succ n))

theorem callN_le {n m : Nat} (h : n ≤ m) : LeqC (callN P cf n) (callN P cf m) := by
  induction h with
  | refl => exact fun _ _ _ _ _ h => h
  | step _ ih => exact fun f args σ base r h => callN_succ_le _ _ _ _ _ _ (ih f args σ base r h)

open Classical in
/-- The limit of a loop. -/
noncomputable def loopL (b : S → Option (Out × S)) (s : S) : Option (Out × S) := if h : ∃ r n, loopN b n s = some r then some h.choose else none

theorem loopL_iff {b : S → Option (Out × S)} {s : S} {r : Out × S} : loopL b s = some r ↔ ∃ n, loopN b n s = some r := by
  unfold loopL
  constructor
  · intro h
    split at h
    · rename_i hex; cases h; exact hex.choose_spec
    · cases h
  · rintro ⟨n, hn⟩
    have hex : ∃ r n, loopN b n s = some r := ⟨r, n, hn⟩
    rw [dif_pos hex]
    obtain ⟨m, hm⟩ := hex.choose_spec
    have h1 := loopN_mono (fun _ _ h => h) (Nat.le_max_left n m) _ _ hn
    have h2 := loopN_mono (fun _ _ h => h) (Nat.le_max_right n m) _ _ hm
    rw [h1] at h2; exact h2.symm

open Classical in
/-- The limit of the calls. -/
noncomputable def callL (P : Program) (cf : Cfg) : CallF := fun f args σ base => if h : ∃ r n, callN P cf n f args σ base = some r then some h.choose else none

theorem callL_iff {f : FuncId} {args : List AV} {σ : St} {base : Nat} {r : AV × St} : callL P cf f args σ base = some r ↔ ∃ n, callN P cf n f args σ base = some r := by
  unfold callL
  constructor
  · intro h
    split at h
    · rename_i hex; cases h; exact hex.choose_spec
    · cases h
  · rintro ⟨n, hn⟩
    have hex : ∃ r n, callN P cf n f args σ base = some r := ⟨r, n, hn⟩
    rw [dif_pos hex]
    obtain ⟨m, hm⟩ := hex.choose_spec
    have h1 := callN_le (Nat.le_max_left n m) _ _ _ _ _ hn
    have h2 := callN_le (Nat.le_max_right n m) _ _ _ _ _ hm
    rw [h1] at h2; exact h2.symm

theorem callL_good (hm : P.follows .mixedOrders = true) (he : Enters P) (hp : PrimOk P cf) : CallGood P cf (callL P cf) := by
  refine ⟨⟨fun f args σ base r σ' hb h => ?_, fun f args σ base r σ' hb h => ?_⟩, fun f args σ base r σ' hpf h => ?_, fun f args σ base r σ' hpf h => ?_⟩
  · obtain ⟨n, hn⟩ := callL_iff.1 h; exact (callN_good hm he hp n).ok.sim _ _ _ _ _ _ hb hn
  · obtain ⟨n, hn⟩ := callL_iff.1 h; exact (callN_good hm he hp n).ok.keep _ _ _ _ _ _ hb hn
  · obtain ⟨n, hn⟩ := callL_iff.1 h; exact (callN_good hm he hp n).pure _ _ _ _ _ _ hpf hn
  · obtain ⟨n, hn⟩ := callL_iff.1 h; exact (callN_good hm he hp n).grow _ _ _ _ _ _ hpf hn

/-! What holds at the limit holds at some fuel. -/

/-- 'g' is the limit of the 'f n', which grow. -/
structure Lim {α β : Type} (f : Nat → α → Option β) (g : α → Option β) : Prop where
  mono : ∀ n m, n ≤ m → Leq (f n) (f m)
  sup : ∀ a b, g a = some b → ∃ n, f n a = some b

theorem evalV_cont {base nid : Nat} {isv : Tmp → Bool} {bs : Tmp → Option Tmp} {env : Env} {σ : St} {o : Oper} {r : St × Slot} (h : evalV P (callL P cf) base isv bs nid env σ o = some r) : ∃ n, evalV P (callN P cf n) base isv bs nid env σ o = some r := by
  unfold evalV at h ⊢
  cases ho : o.op <;> simp only [ho] at h ⊢ <;> try exact ⟨0, h⟩
  case makeFunc fn fi ca => cases fn <;> exact ⟨0, h⟩
  case makeMap t r => cases r <;> exact ⟨0, h⟩
  case call c =>
    split at h
    · rename_i args ha
      split at h
      · rename_i hb; exact ⟨0, h⟩
      · split at h
        · rename_i hv
          split at h
          · rename_i hc
            obtain ⟨n, hn⟩ := callL_iff.1 hc
            exact ⟨n, by rw [hn]; exact h⟩
          · cases h
        · cases h
      · cases h
    · cases h

theorem evalOp_cont {base nid : Nat} {isv : Tmp → Bool} {bs : Tmp → Option Tmp} {env : Env} {σ : St} {o : Oper} {r : Env × St × Slot} (h : evalOp P (callL P cf) base isv bs nid env σ o = some r) : ∃ n, evalOp P (callN P cf n) base isv bs nid env σ o = some r := by
  unfold evalOp at h ⊢
  split at h
  · exact ⟨0, h⟩
  · split at h
    · rename_i hv
      obtain ⟨n, hn⟩ := evalV_cont hv
      exact ⟨n, by rw [hn]; exact h⟩
    · cases h

theorem stepA_cont {base n0 i : Nat} {isv : Tmp → Bool} {bs : Tmp → Option Tmp} {ops : List Oper} : Lim (fun n => stepA P (callN P cf n) base isv bs ops n0 i) (stepA P (callL P cf) base isv bs ops n0 i) := by
  refine ⟨fun n m hnm s r h => stepA_mono (callN_le hnm) h, fun s r h => ?_⟩
  unfold stepA at h ⊢
  split at h
  · exact ⟨0, h⟩
  · rename_i o ho
    split at h
    · rename_i hd
      simp only [if_pos hd]
      split at h
      · rename_i hw
        split at h
        · rename_i hv
          obtain ⟨n, hn⟩ := evalOp_cont hv
          exact ⟨n, by rw [hn]; exact h⟩
        · cases h
      · exact ⟨0, h⟩
      · cases h
    · cases h

theorem runA_cont {st : Nat → Nat → S → Option S} {stL : Nat → S → Option S} (hs : ∀ i, Lim (fun n => st n i) (stL i)) : ∀ {l : List Nat}, Lim (fun n => runA (st n) l) (runA stL l)
  | [] => ⟨fun _ _ _ _ _ h => h, fun _ _ h => ⟨0, h⟩⟩
  | i :: l => by
    refine ⟨fun n m hnm s r h => runA_mono (fun i => (hs i).mono n m hnm) h, fun s r h => ?_⟩
    unfold runA at h
    split at h
    · rename_i s1 h1
      obtain ⟨n, hn⟩ := (hs i).sup _ _ h1
      obtain ⟨m, hm⟩ := (runA_cont hs (l := l)).sup _ _ h
      refine ⟨max n m, ?_⟩
      simp only [runA]
      rw [(hs i).mono n _ (Nat.le_max_left _ _) _ _ hn]
      exact (runA_cont hs (l := l)).mono m _ (Nat.le_max_right _ _) _ _ hm
    · cases h

theorem regionA_cont {base : Nat} {f : FuncId} {id : Nat} {ops : Array Oper} {d : Bool} : Lim (fun n => regionA P cf (callN P cf n) base f id ops d) (regionA P cf (callL P cf) base f id ops d) := by
  refine ⟨fun n m hnm => regionA_mono (callN_le hnm), fun s r h => ?_⟩
  unfold regionA at h ⊢
  simp only at h ⊢
  split at h
  · rename_i hok
    simp only [hok, if_true]
    split at h
    · rename_i env σ hr
      obtain ⟨n, hn⟩ := (runA_cont fun i => stepA_cont).sup _ _ hr
      exact ⟨n, by rw [hn]; exact h⟩
    · cases h
  · cases h

theorem loop_cont {b : Nat → S → Option (Out × S)} {bL : S → Option (Out × S)} (hb : Lim b bL) : Lim (fun n => loopN (b n) n) (loopL bL) := by
  refine ⟨fun n m hnm => loopN_mono (hb.mono n m hnm) hnm, fun s r h => ?_⟩
  obtain ⟨k, hk⟩ := loopL_iff.1 h
  have key : ∀ (k : Nat) (s : S), loopN bL k s = some r → ∃ n, loopN (b n) k s = some r := by
    intro k
    induction k with
    | zero => intro s h; cases h
    | succ k ih =>
      intro s h
      unfold loopN at h
      split at h
      · rename_i s1 h1
        obtain ⟨n, hn⟩ := hb.sup _ _ h1
        obtain ⟨m, hm⟩ := ih _ h
        refine ⟨max n m, ?_⟩
        unfold loopN
        rw [hb.mono n _ (Nat.le_max_left _ _) _ _ hn]
        exact loopN_mono (hb.mono m _ (Nat.le_max_right _ _)) (Nat.le_refl _) _ _ hm
      · rename_i hne
        obtain ⟨n, hn⟩ := hb.sup _ _ h
        refine ⟨n, ?_⟩
        unfold loopN
        rw [hn]
        obtain ⟨out, s'⟩ := r
        cases out with
        | normal => exact absurd h (hne s')
        | exit i => rfl
        | ret => rfl
  obtain ⟨n, hn⟩ := key k s hk
  exact ⟨max n k, loopN_mono (hb.mono n _ (Nat.le_max_left _ _)) (Nat.le_max_right _ _) _ _ hn⟩

theorem execC_cont {rg : Nat → Nat → Array Oper → Bool → S → Option S} {rgL : Nat → Array Oper → Bool → S → Option S} {mk : Code → Option Out → Env → Option Env} (hr : ∀ id ops d, Lim (fun n => rg n id ops d) (rgL id ops d)) :
    ∀ c, Lim (fun n => execC (rg n) mk (fun b s => loopN b n s) c) (execC rgL mk loopL c) := by
  have hmono : ∀ c n m, n ≤ m → Leq (execC (rg n) mk (fun b s => loopN b n s) c) (execC (rg m) mk (fun b s => loopN b m s) c) := fun c n m hnm =>
    execC_mono (fun id ops d => (hr id ops d).mono n m hnm) (fun b b' hb => loopN_mono hb hnm) c
  intro c
  refine ⟨hmono c, ?_⟩
  induction c with
  | skip => intro s r h; exact ⟨0, h⟩
  | label l => intro s r h; exact ⟨0, h⟩
  | exit l => intro s r h; exact ⟨0, h⟩
  | ret => intro s r h; exact ⟨0, h⟩
  | region id ops d =>
    intro s r h
    simp only [execC] at h ⊢
    split at h
    · rename_i h1
      obtain ⟨n, hn⟩ := (hr id ops d).sup _ _ h1
      exact ⟨n, by rw [hn]; exact h⟩
    · cases h
  | seq x y ihx ihy =>
    intro s r h
    simp only [execC] at h ⊢
    split at h
    · rename_i h1
      obtain ⟨n, hn⟩ := ihx _ _ h1
      obtain ⟨m, hm⟩ := ihy _ _ h
      refine ⟨max n m, ?_⟩
      rw [hmono x n _ (Nat.le_max_left _ _) _ _ hn]
      exact hmono y m _ (Nat.le_max_right _ _) _ _ hm
    · rename_i hne
      obtain ⟨n, hn⟩ := ihx _ _ h
      refine ⟨n, ?_⟩
      rw [hn]
      obtain ⟨out, s'⟩ := r
      cases out with
      | normal => exact absurd h (hne s')
      | exit i => rfl
      | ret => rfl
  | cond c x y ihx ihy =>
    intro s r h
    simp only [execC] at h ⊢
    split at h
    · exact ihx _ _ h
    · exact ihy _ _ h
    · cases h
  | block id x ih =>
    intro s r h
    simp only [execC] at h ⊢
    split at h
    · rename_i i s1 h1
      obtain ⟨n, hn⟩ := ih _ _ h1
      exact ⟨n, by rw [hn]; exact h⟩
    · rename_i hne
      obtain ⟨n, hn⟩ := ih _ _ h
      refine ⟨n, ?_⟩
      rw [hn]
      obtain ⟨out, s'⟩ := r
      cases out with
      | normal => rfl
      | exit i => exact absurd h (hne i s')
      | ret => rfl
  | loop x ih =>
    intro s r h
    simp only [execC] at h ⊢
    split at h
    · rename_i out1 s1 h0
      have hlim : Lim (fun n => roundA mk (execC (rg n) mk (fun b s => loopN b n s) x) x) (roundA mk (execC rgL mk loopL x) x) := by
        refine ⟨fun n m hnm => round_mono (hmono x n m hnm), fun s r h => ?_⟩
        unfold roundA at h ⊢
        split at h
        · exact ih _ _ h
        · cases h
      obtain ⟨n, hn⟩ := (loop_cont hlim).sup _ _ h0
      exact ⟨n, by rw [hn]; exact h⟩
    · cases h
  | _ => intro s r h; cases h

theorem bodyA_cont {f : FuncId} {fn : Func} {c : Code} {args : List AV} {σ : St} {base : Nat} {r : AV × St} (h : bodyA P cf (callL P cf) loopL f fn c args σ base = some r) :
    ∃ n, bodyA P cf (callN P cf n) (fun b s => loopN b n s) f fn c args σ base = some r := by
  unfold bodyA at h ⊢
  split at h
  · rename_i h1
    obtain ⟨n, hn⟩ := (execC_cont (mk := fun c o e => maskA (fun t => (cf.live f c o).contains t) 0 e) (fun id ops d => regionA_cont (base := base) (f := f) (id := id) (ops := ops) (d := d)) c).sup _ _ h1
    exact ⟨n, by rw [hn]; exact h⟩
  · rename_i h1
    obtain ⟨n, hn⟩ := (execC_cont (mk := fun c o e => maskA (fun t => (cf.live f c o).contains t) 0 e) (fun id ops d => regionA_cont (base := base) (f := f) (id := id) (ops := ops) (d := d)) c).sup _ _ h1
    exact ⟨n, by rw [hn]; exact h⟩
  · cases h

/-- The law of the limit: what a function's body comes to, with the limit for its calls and its loops, is what the limit says of the function. -/
theorem callL_intro {f : FuncId} {args : List AV} {σ : St} {base : Nat} {r : AV × St} (h : enterA P cf (callL P cf) loopL f args σ base = some r) : callL P cf f args σ base = some r := by
  refine callL_iff.2 ?_
  have key : ∃ n, enterA P cf (callN P cf n) (fun b s => loopN b n s) f args σ base = some r := by
    unfold enterA at h ⊢
    split at h
    · exact ⟨0, h⟩
    · split at h
      · split at h
        · split at h
          · rename_i hp
            simp only [hp, if_true]
            split at h
            · rename_i v s1 hb
              obtain ⟨n, hn⟩ := bodyA_cont hb
              exact ⟨n, by rw [hn]; exact h⟩
            · cases h
          · rename_i hp
            simp only [hp]
            obtain ⟨n, hn⟩ := bodyA_cont h
            exact ⟨n, hn⟩
        · cases h
      · cases h
  obtain ⟨n, hn⟩ := key
  exact ⟨n + 1, hn⟩

/-! Loops, round by round. -/

theorem loopL_next {b : S → Option (Out × S)} {s s1 : S} {r : Out × S} (h : b s = some (.normal, s1)) (h1 : loopL b s1 = some r) : loopL b s = some r := by
  obtain ⟨n, hn⟩ := loopL_iff.1 h1
  refine loopL_iff.2 ⟨n + 1, ?_⟩
  unfold loopN
  rw [h]
  exact hn

theorem loopL_exit {b : S → Option (Out × S)} {s s1 : S} {i : Nat} (h : b s = some (.exit i, s1)) : loopL b s = some (.exit i, s1) :=
  loopL_iff.2 ⟨1, by unfold loopN; rw [h]⟩

theorem loopL_ret {b : S → Option (Out × S)} {s s1 : S} (h : b s = some (.ret, s1)) : loopL b s = some (.ret, s1) :=
  loopL_iff.2 ⟨1, by unfold loopN; rw [h]⟩

end
end Go.Can
