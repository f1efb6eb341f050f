/- The laws by which 'simp only [go_sem]' carries out a function's body in the evaluator. -/
import Derived.Test.YtgcfhcgnkohfkaaCanW
set_option linter.unusedSimpArgs false
set_option linter.unusedVariables false
namespace Go.Can
open Go

section lists
variable {α : Type} {a a0 a1 a2 a3 a4 a5 a6 a7 v : α} {l : List α} {n : Nat}
@[go_sem] theorem x_get0 : (a :: l)[0]? = some a := rfl
@[go_sem] theorem x_get1 : (a0 :: a1 :: l)[1]? = some a1 := rfl
@[go_sem] theorem x_get2 : (a0 :: a1 :: a2 :: l)[2]? = some a2 := rfl
@[go_sem] theorem x_get3 : (a0 :: a1 :: a2 :: a3 :: l)[3]? = some a3 := rfl
@[go_sem] theorem x_get4 : (a0 :: a1 :: a2 :: a3 :: a4 :: l)[4]? = some a4 := rfl
@[go_sem] theorem x_get5 : (a0 :: a1 :: a2 :: a3 :: a4 :: a5 :: l)[5]? = some a5 := rfl
@[go_sem] theorem x_get6 : (a0 :: a1 :: a2 :: a3 :: a4 :: a5 :: a6 :: l)[6]? = some a6 := rfl
@[go_sem] theorem x_get7 : (a0 :: a1 :: a2 :: a3 :: a4 :: a5 :: a6 :: a7 :: l)[7]? = some a7 := rfl
@[go_sem] theorem x_get8 : (a0 :: a1 :: a2 :: a3 :: a4 :: a5 :: a6 :: a7 :: l)[n + 8]? = l[n]? := rfl
@[go_sem] theorem x_set0 : (a :: l).set 0 v = v :: l := rfl
@[go_sem] theorem x_set1 : (a0 :: a1 :: l).set 1 v = a0 :: v :: l := rfl
@[go_sem] theorem x_set2 : (a0 :: a1 :: a2 :: l).set 2 v = a0 :: a1 :: v :: l := rfl
@[go_sem] theorem x_set3 : (a0 :: a1 :: a2 :: a3 :: l).set 3 v = a0 :: a1 :: a2 :: v :: l := rfl
@[go_sem] theorem x_set4 : (a0 :: a1 :: a2 :: a3 :: a4 :: l).set 4 v = a0 :: a1 :: a2 :: a3 :: v :: l := rfl
@[go_sem] theorem x_set5 : (a0 :: a1 :: a2 :: a3 :: a4 :: a5 :: l).set 5 v = a0 :: a1 :: a2 :: a3 :: a4 :: v :: l := rfl
@[go_sem] theorem x_set6 : (a0 :: a1 :: a2 :: a3 :: a4 :: a5 :: a6 :: l).set 6 v = a0 :: a1 :: a2 :: a3 :: a4 :: a5 :: v :: l := rfl
@[go_sem] theorem x_set7 : (a0 :: a1 :: a2 :: a3 :: a4 :: a5 :: a6 :: a7 :: l).set 7 v = a0 :: a1 :: a2 :: a3 :: a4 :: a5 :: a6 :: v :: l := rfl
@[go_sem] theorem x_set8 : (a0 :: a1 :: a2 :: a3 :: a4 :: a5 :: a6 :: a7 :: l).set (n + 8) v = a0 :: a1 :: a2 :: a3 :: a4 :: a5 :: a6 :: a7 :: l.set n v := rfl
@[go_sem] theorem x_rep0 : List.replicate 0 a = [] := rfl
@[go_sem] theorem x_repS : List.replicate (n + 1) a = a :: List.replicate n a := rfl
@[go_sem] theorem x_app0 {m : List α} : [] ++ m = m := rfl
@[go_sem] theorem x_appS {m : List α} : (a :: l) ++ m = a :: (l ++ m) := rfl
@[go_sem] theorem x_appN {m : List α} : m ++ [] = m := List.append_nil m
@[go_sem] theorem x_len0 : ([] : List α).length = 0 := rfl
@[go_sem] theorem x_lenS : (a :: l).length = l.length + 1 := rfl
@[go_sem] theorem x_map0 {β : Type} {f : α → β} : List.map f [] = [] := rfl
@[go_sem] theorem x_mapS {β : Type} {f : α → β} : List.map f (a :: l) = f a :: List.map f l := rfl
@[go_sem] theorem x_cnt0 {p : α → Bool} : List.countP p [] = 0 := rfl
@[go_sem] theorem x_cntS {p : α → Bool} : List.countP p (a :: l) = if p a then List.countP p l + 1 else List.countP p l := by
  rw [List.countP_cons]; split <;> simp_all
@[go_sem] theorem x_toList {l : List α} : (l.toArray).toList = l := rfl
@[go_sem] theorem x_size {l : List α} : (l.toArray).size = l.length := rfl
@[go_sem] theorem x_aget {l : List α} : (l.toArray)[n]? = l[n]? := by simp
end lists

@[go_sem] theorem x_con0 {n : Nat} : ([] : List Nat).contains n = false := rfl
@[go_sem] theorem x_conS {n m : Nat} {l : List Nat} : (m :: l).contains n = (n == m || l.contains n) := List.contains_cons

@[go_sem] theorem x_lk0 {β : Type} {n : Nat} : List.lookup n ([] : List (Nat × β)) = none := rfl
@[go_sem] theorem x_lkS {β : Type} {n a : Nat} {b : β} {l : List (Nat × β)} : List.lookup n ((a, b) :: l) = if n == a then some b else List.lookup n l := by
  rw [List.lookup_cons]; split <;> simp_all
@[go_sem] theorem x_nn : ((none : Option Nat) == none) = true := rfl
@[go_sem] theorem x_ns {n : Nat} : ((none : Option Nat) == some n) = false := rfl
@[go_sem] theorem x_sn {n : Nat} : (some n == (none : Option Nat)) = false := rfl
@[go_sem] theorem x_ss {n m : Nat} : (some n == some m) = (n == m) := rfl
@[go_sem] theorem x_eqK {k : IntKind} : (k = k) = True := eq_self k
@[go_sem] theorem x_eqI {a : Int} : (a = a) = True := eq_self a
@[go_sem] theorem x_ltI {a : Int} : (a < a) = False := by simp
@[go_sem] theorem x_natI {n : Nat} : ((0 : Int) ≤ (n : Int)) = True := by simp
@[go_sem] theorem x_toN {n : Nat} : ((n : Int)).toNat = n := Int.toNat_natCast n
@[go_sem] theorem x_notF : (¬ False) = True := by simp
@[go_sem] theorem x_notT : (¬ True) = False := by simp
@[go_sem] theorem x_isN {α : Type} : (none : Option α).isSome = false := rfl
@[go_sem] theorem x_isS {α : Type} {n : α} : (some n).isSome = true := rfl
@[go_sem] theorem x_pos {n : Nat} : (0 < n + 1) = True := by simp
@[go_sem] theorem x_list0 {sz n : Nat} : listA sz n [] = some [] := rfl
@[go_sem] theorem x_listS {sz n i : Nat} {v : AV} {ps : List (Nat × AV)} : listA sz n ((i, v) :: ps) = if i == n && v.cells.length == sz then (listA sz (n + 1) ps).map (v :: ·) else none := rfl
@[go_sem] theorem x_elemL {σ : St} {sz : Nat} {f : Bool} {xs : List AV} : elems σ sz (.list f sz xs) = some xs := by simp [elems]
@[go_sem] theorem x_lenL {f : Bool} {sz : Nat} {xs : List AV} : lenS (.list f sz xs) = some xs.length := rfl
@[go_sem] theorem x_lenR {sz id gen off len : Nat} {lim : Bool} : lenS (.row sz id gen off len lim) = some len := rfl
@[go_sem] theorem x_bindS {α β : Type} {a : α} {f : α → Option β} : (some a).bind f = f a := rfl
@[go_sem] theorem x_bindN {α β : Type} {f : α → Option β} : (none : Option α).bind f = none := rfl

@[go_sem] theorem x_beqI {a b : Int} : (a == b) = decide (a = b) := by by_cases h : a = b <;> simp [h]
@[go_sem] theorem x_bneI {a b : Int} : (a != b) = !decide (a = b) := by by_cases h : a = b <;> simp [h]
@[go_sem] theorem x_or_true {b : Bool} : (true || b) = true := rfl
@[go_sem] theorem x_or_false {b : Bool} : (false || b) = b := rfl
@[go_sem] theorem x_and_true {b : Bool} : (true && b) = b := rfl
@[go_sem] theorem x_and_false {b : Bool} : (false && b) = false := rfl
@[go_sem] theorem x_or_true' {b : Bool} : (b || true) = true := by cases b <;> rfl
@[go_sem] theorem x_or_false' {b : Bool} : (b || false) = b := by cases b <;> rfl
@[go_sem] theorem x_and_true' {b : Bool} : (b && true) = b := by cases b <;> rfl
@[go_sem] theorem x_and_false' {b : Bool} : (b && false) = false := by cases b <;> rfl
@[go_sem] theorem x_not_true : (!true) = false := rfl
@[go_sem] theorem x_not_false : (!false) = true := rfl
@[go_sem] theorem x_tt : (true = true) = True := eq_self true
@[go_sem] theorem x_ff : (false = true) = False := by simp
@[go_sem] theorem x_iteT {α : Type} {a b : α} {inst : Decidable True} : (@ite α True inst a b) = a := if_pos trivial
@[go_sem] theorem x_iteF {α : Type} {a b : α} {inst : Decidable False} : (@ite α False inst a b) = b := if_neg id
@[go_sem] theorem x_andT {p : Prop} : (True ∧ p) = p := true_and p
@[go_sem] theorem x_andT' {p : Prop} : (p ∧ True) = p := and_true p
@[go_sem] theorem x_decT {inst : Decidable True} : @decide True inst = true := decide_eq_true trivial
@[go_sem] theorem x_decF {inst : Decidable False} : @decide False inst = false := decide_eq_false id
@[go_sem] theorem x_beqB {b : Bool} : (b == true) = b := by cases b <;> rfl
@[go_sem] theorem x_beqB' {b : Bool} : (b == false) = !b := by cases b <;> rfl

def placesT (P : Program) (t : TypeId) : Option (List (Option (Nat × Nat)) × List AV) := match P.underlying t, zeroOf P t with
  | some (.struct fs), some z => if fs.toList.all fun f => (szOf P f.type).isSome then some (fs.toList.map fun f => (szOf P f.type).map fun s => (f.offset, s), z.cells) else none
  | _, _ => none

theorem buildA_struct {P : Program} {t : TypeId} {pl : List (Option (Nat × Nat))} {z : List AV} {ps : List (Nat × AV)} (h : placesT P t = some (pl, z)) : buildA P t ps = (fillA (fun i => (pl[i]?).join) z ps).map .agg := by
  unfold placesT at h
  unfold buildA
  split at h
  · rename_i fs z' h1 h2
    split at h
    · rename_i hall
      cases h
      rw [h1, h2]
      simp only
      rw [if_pos hall]
      congr 2
      funext i
      unfold placeA
      rw [List.getElem?_map, Array.getElem?_toList]
      cases fs[i]? <;> rfl
    · cases h
  · cases h

section heap
variable {α : Type} {s l : List α} {x : α} {k : Nat}
@[go_sem] theorem x_lenApp {m : List α} : (s ++ m).length = s.length + m.length := List.length_append
@[go_sem] theorem x_appA {m : List α} : (s ++ l) ++ m = s ++ (l ++ m) := List.append_assoc _ _ _
@[go_sem] theorem x_getApp : (s ++ l)[s.length + k]? = l[k]? := by rw [List.getElem?_append_right (by omega)]; congr 1; omega
@[go_sem] theorem x_getApp0 : (s ++ l)[s.length]? = l[0]? := by rw [List.getElem?_append_right (by omega)]; simp
@[go_sem] theorem x_setApp : (s ++ l).set (s.length + k) x = s ++ l.set k x := by rw [List.set_append_right _ _ (by omega)]; congr 2; omega
@[go_sem] theorem x_setApp0 : (s ++ l).set s.length x = s ++ l.set 0 x := by rw [List.set_append_right _ _ (by omega)]; simp
@[go_sem] theorem x_leA {n : Nat} : (n ≤ n + k) = True := by simp
@[go_sem] theorem x_le0 {n : Nat} : (n ≤ n) = True := by simp
@[go_sem] theorem x_addZ {n : Nat} : n + 0 = n := rfl
end heap
@[go_sem] theorem x_fresh {σ : St} {n : Nat} : fresh σ n = match σ[n]? with
    | some .none => true
    | _ => false := rfl

theorem append_fresh {base : Nat} {σ : St} {sz bytes s : Nat} {ys : List AV} (h : ys.length * bytes ≤ 140737488355328) (hs : 0 < sz) :
    appendTo base σ sz bytes (.list true s []) ys = some (.row sz σ.length ys.length 0 ys.length false, σ ++ [.row sz ys]) := by simp [appendTo, h, hs]

theorem append_row {base id : Nat} {σ : St} {sz bytes : Nat} {xs ys : List AV} (hob : σ[id]? = some (.row sz xs)) (hb : base ≤ id) (h : (xs.length + ys.length) * bytes ≤ 140737488355328) (hs : 0 < sz) :
    appendTo base σ sz bytes (.row sz id xs.length 0 xs.length false) ys = some (.row sz id (xs.length + ys.length) 0 (xs.length + ys.length) false, σ.set id (.row sz (xs ++ ys))) := by
  simp [appendTo, hob, hb, h, hs]

@[go_sem] theorem x_fill0 {place : Nat → Option (Nat × Nat)} {cs : List AV} : fillA place cs [] = some cs := rfl
@[go_sem] theorem x_fillS {place : Nat → Option (Nat × Nat)} {cs : List AV} {i : Nat} {v : AV} {rest : List (Nat × AV)} : fillA place cs ((i, v) :: rest) = match place i with
    | none => none
    | some (off, size) => if v.cells.length == size then
        match splice cs off v.cells with
        | some cs => fillA place cs rest
        | none => none
      else none := rfl
@[go_sem] theorem x_getD {α : Type} {a b : α} : (some a).getD b = a := rfl
@[go_sem] theorem x_join {α : Type} {a : Option α} : (some a).join = a := rfl
@[go_sem] theorem x_map {α β : Type} {a : α} {f : α → β} : (some a).map f = some (f a) := rfl
@[go_sem] theorem x_mapN {α β : Type} {f : α → β} : (none : Option α).map f = none := rfl
@[go_sem] theorem x_splN {cs : List AV} : splice cs 0 [] = some cs := by simp [splice]
@[go_sem] theorem x_spl0 {c v : AV} {cs vs : List AV} : splice (c :: cs) 0 (v :: vs) = (splice cs 0 vs).map (v :: ·) := by
  unfold splice
  simp only [List.length_cons]
  by_cases h : vs.length ≤ cs.length
  · rw [if_pos (by omega), if_pos (by omega)]
    simp
  · rw [if_neg (by omega), if_neg (by omega)]; rfl
@[go_sem] theorem x_splS {c : AV} {cs vs : List AV} {n : Nat} : splice (c :: cs) (n + 1) vs = (splice cs n vs).map (c :: ·) := by
  unfold splice
  simp only [List.length_cons, List.take_succ_cons]
  by_cases h : n + vs.length ≤ cs.length
  · rw [if_pos (by omega), if_pos (by omega)]
    have : n + 1 + vs.length = (n + vs.length) + 1 := by omega
    simp [this]
  · rw [if_neg (by omega), if_neg (by omega)]; rfl
@[go_sem] theorem x_cast0 : ((0 : Nat) : Int) = 0 := rfl
@[go_sem] theorem x_cInt {k n} : (AV.int k n).cells = [AV.int k n] := rfl
@[go_sem] theorem x_cBool {b} : (AV.bool b).cells = [AV.bool b] := rfl
@[go_sem] theorem x_cStr {b} : (AV.str b).cells = [AV.str b] := rfl
@[go_sem] theorem x_cList {f s b} : (AV.list f s b).cells = [AV.list f s b] := rfl
@[go_sem] theorem x_cRow {a b c d e f} : (AV.row a b c d e f).cells = [AV.row a b c d e f] := rfl
@[go_sem] theorem x_cAgg {b} : (AV.agg b).cells = b := rfl
@[go_sem] theorem x_cFn {a b c} : (AV.fn a b c).cells = [AV.fn a b c] := rfl
@[go_sem] theorem x_cMap {a} : (AV.map a).cells = [AV.map a] := rfl
@[go_sem] theorem x_cPtr {a b} : (AV.ptr a b).cells = [AV.ptr a b] := rfl
@[go_sem] theorem x_take0 {α : Type} {l : List α} : List.take 0 l = [] := rfl
@[go_sem] theorem x_takeS {α : Type} {n : Nat} {a : α} {l : List α} : List.take (n + 1) (a :: l) = a :: List.take n l := rfl
@[go_sem] theorem x_drop0 {α : Type} {l : List α} : List.drop 0 l = l := rfl
@[go_sem] theorem x_dropS {α : Type} {n : Nat} {a : α} {l : List α} : List.drop (n + 1) (a :: l) = List.drop n l := rfl

@[go_sem] theorem x_fzA {n k : Nat} {σ : St} {cs : List AV} : freeze n σ (k + 1) (.agg cs) = (freezeL (freeze n σ k) cs).map .agg := rfl
@[go_sem] theorem x_fzT {n k : Nat} {σ : St} {cs : List AV} : freeze n σ (k + 1) (.tup cs) = (freezeL (freeze n σ k) cs).map .tup := rfl
@[go_sem] theorem x_fzI {n k : Nat} {σ : St} {kd : IntKind} {q : Int} : freeze n σ (k + 1) (.int kd q) = some (.int kd q) := rfl
@[go_sem] theorem x_fzB {n k : Nat} {σ : St} {b : Bool} : freeze n σ (k + 1) (.bool b) = some (.bool b) := rfl
@[go_sem] theorem x_fzL0 {f : AV → Option AV} : freezeL f [] = some [] := rfl
@[go_sem] theorem x_fzLS {f : AV → Option AV} {v : AV} {vs : List AV} : freezeL f (v :: vs) = match f v, freezeL f vs with
    | some a, some as => some (a :: as)
    | _, _ => none := rfl
@[go_sem] theorem x_mask0 {live : Tmp → Bool} {i : Nat} : maskA live i [] = some [] := rfl
@[go_sem] theorem x_maskS {live : Tmp → Bool} {i : Nat} {s : Slot} {env : Env} : maskA live i (s :: env) = match maskA live (i + 1) env with
    | none => none
    | some env' => if live i then match s with
        | .plc _ _ => none
        | s => some (s :: env')
      else some (.top :: env') := rfl

@[go_sem] theorem v_int {k n} : (Slot.val (.int k n)).v = some (.int k n) := rfl
@[go_sem] theorem v_bool {b} : (Slot.val (.bool b)).v = some (.bool b) := rfl
@[go_sem] theorem v_str {b} : (Slot.val (.str b)).v = some (.str b) := rfl
@[go_sem] theorem v_agg {b} : (Slot.val (.agg b)).v = some (.agg b) := rfl
@[go_sem] theorem v_list {f s b} : (Slot.val (.list f s b)).v = some (.list f s b) := rfl
@[go_sem] theorem v_row {a b c d e f} : (Slot.val (.row a b c d e f)).v = some (.row a b c d e f) := rfl
@[go_sem] theorem v_fn {a b c} : (Slot.val (.fn a b c)).v = some (.fn a b c) := rfl
@[go_sem] theorem v_map {a} : (Slot.val (.map a)).v = some (.map a) := rfl
@[go_sem] theorem v_ptr {a b} : (Slot.val (.ptr a b)).v = some (.ptr a b) := rfl
@[go_sem] theorem v_elm {a b c d} : (Slot.val (.elm a b c d)).v = some (.elm a b c d) := rfl
@[go_sem] theorem v_nilp : (Slot.val .nilp).v = some .nilp := rfl
@[go_sem] theorem v_nilf : (Slot.val .nilf).v = some .nilf := rfl
@[go_sem] theorem v_nili : (Slot.val .nili).v = some .nili := rfl

section
variable {P : Program} {C : CallF} {base nid : Nat} {isv : Tmp → Bool} {bs : Tmp → Option Tmp} {ops rest : List Oper} {o : Oper} {env : Env} {σ : St}

@[go_sem] theorem x_run0 : runO P C base isv bs ops [] nid (env, σ) = some (env, σ) := rfl
@[go_sem] theorem x_runS : runO P C base isv bs ops (o :: rest) nid (env, σ) = match stepO P C base isv bs ops nid o (env, σ) with
    | some s' => runO P C base isv bs ops rest (if allocs isv o then nid + 1 else nid) s'
    | none => none := rfl
end

section
variable {rg : Nat → Array Oper → Bool → S → Option S} {mk : Code → Option Out → Env → Option Env} {lp : LoopF} {env : Env} {σ : St}
@[go_sem] theorem x_skip : execC rg mk lp .skip (env, σ) = some (.normal, env, σ) := rfl
@[go_sem] theorem x_label {l} : execC rg mk lp (.label l) (env, σ) = some (.normal, env, σ) := rfl
@[go_sem] theorem x_ret : execC rg mk lp .ret (env, σ) = some (.ret, env, σ) := rfl
@[go_sem] theorem x_exit {i} : execC rg mk lp (.exit i) (env, σ) = some (.exit i, env, σ) := rfl
@[go_sem] theorem x_region {i ops d} : execC rg mk lp (.region i ops d) (env, σ) = match rg i ops d (env, σ) with
    | some s' => some (.normal, s')
    | none => none := rfl
@[go_sem] theorem x_seq {a b} : execC rg mk lp (.seq a b) (env, σ) = match execC rg mk lp a (env, σ) with
    | some (.normal, s') => execC rg mk lp b s'
    | r => r := rfl
@[go_sem] theorem x_cond {c a b} : execC rg mk lp (.cond c a b) (env, σ) = match lookV env c with
    | some (.bool true) => execC rg mk lp a (env, σ)
    | some (.bool false) => execC rg mk lp b (env, σ)
    | _ => none := rfl
@[go_sem] theorem x_block {i a} : execC rg mk lp (.block i a) (env, σ) = match execC rg mk lp a (env, σ) with
    | some (.exit j, s') => if j = i then some (.normal, s') else some (.exit j, s')
    | r => r := rfl
end

@[go_sem] theorem x_loop {P : Program} {cf : Cfg} {base : Nat} {f : FuncId} {a : Code} {env : Env} {σ : St} : execC (rgT P cf (callL P cf) base f) (mkT cf f) loopL (.loop a) (env, σ) = match mkT cf f a none env with
    | some e => loopM P cf f base a (e, σ)
    | none => none := execC_loop.trans (loopM_mask (P := P) (cf := cf) (base := base) (f := f) (a := a) (env := env) (σ := σ))

section
variable {P : Program} {cf : Cfg} {base : Nat} {f : FuncId} {a : Code} {env : Env} {σ : St}
@[go_sem] theorem x_nextN : nextM P cf f base a (some (.normal, env, σ)) = match mkT cf f a none env with
    | some e => loopM P cf f base a (e, σ)
    | none => none := rfl
@[go_sem] theorem x_nextE {i : Nat} : nextM P cf f base a (some (.exit i, env, σ)) = match mkT cf f a (some (.exit i)) env with
    | some e => some (.exit i, e, σ)
    | none => none := rfl
@[go_sem] theorem x_nextR : nextM P cf f base a (some (.ret, env, σ)) = match mkT cf f a (some .ret) env with
    | some e => some (.ret, e, σ)
    | none => none := rfl
end

@[go_sem] theorem x_ldOk {isv : Tmp → Bool} {d : Option Tmp} {s : Slot} : ldOk isv d s = (!isv? isv d || s.isPtr) := rfl
@[go_sem] theorem x_isPtr {i o : Nat} : (Slot.val (.ptr i o)).isPtr = true := rfl

end Go.Can
