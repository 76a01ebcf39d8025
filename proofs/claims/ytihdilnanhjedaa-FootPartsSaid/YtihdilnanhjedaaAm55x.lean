import Derived.Test.YtihdilnanhjedaaAm52x
set_option linter.unusedVariables false
set_option linter.unusedSimpArgs false
/- Places; bytes in their order. -/
namespace Go.Am
open Go

/-- more blocks behind -/
theorem pres_pre {h l l' : AH} (hp : Pre l l') : Pres (h ++ l) (h ++ l') := by
  intro b hb
  by_cases hl : b < h.length
  · rw [List.getElem?_append_left hl, List.getElem?_append_left hl]
  · rw [List.getElem?_append_right (by omega), List.getElem?_append_right (by omega)]
    exact hp.get _ (by simp at hb; omega)

/-! ### bytes in their order -/
def lexI : List UInt8 → List UInt8 → Int
  | [], [] => 0
  | [], _ :: _ => -1
  | _ :: _, [] => 1
  | x :: xs, y :: ys => if x = y then lexI xs ys else if x < y then -1 else 1

theorem cmp_lex : ∀ xs ys : List UInt8, Extern.BytealgCompare.cmp (bs xs) (bs ys) = lexI xs ys := by
  have key : ∀ (xs ys : List UInt8), (match (List.range (min xs.length ys.length)).find? (fun i => xs.getD i 0 != ys.getD i 0) with
      | some i => if xs.getD i 0 < ys.getD i 0 then (-1 : Int) else 1
      | none => if xs.length < ys.length then -1 else if ys.length < xs.length then 1 else 0) = lexI xs ys := by
    intro xs
    induction xs with
    | nil => intro ys; cases ys <;> simp [lexI]
    | cons x xs ih =>
      intro ys
      cases ys with
      | nil => simp [lexI]
      | cons y ys =>
        rw [show min (x :: xs).length (y :: ys).length = min xs.length ys.length + 1 by simp only [List.length_cons]; omega, List.range_succ_eq_map, List.find?_cons]
        by_cases hxy : x = y
        · subst hxy
          have e : ((x :: xs).getD 0 0 != (x :: ys).getD 0 0) = false := by simp
          rw [e]
          simp only [lexI, if_true]
          rw [← ih ys, List.find?_map]
          simp only [Function.comp_def, List.getD_cons_succ]
          cases (List.range (min xs.length ys.length)).find? (fun i => xs.getD i 0 != ys.getD i 0) with
          | none => simp
          | some i => simp
        · have e : ((x :: xs).getD 0 0 != (y :: ys).getD 0 0) = true := by simp [hxy]
          rw [e]
          simp [lexI, hxy]
  intro xs ys
  unfold Extern.BytealgCompare.cmp
  rw [size_bs, size_bs, ← key]
  have g : ∀ (l : List UInt8) (i : Nat), (bs l)[i]! = l.getD i 0 := by
    intro l i
    rw [getElem!_def, get_bs, List.getD_eq_getElem?_getD]
    cases l[i]? <;> rfl
  have e : (fun i => (bs xs)[i]! != (bs ys)[i]!) = fun i => xs.getD i 0 != ys.getD i 0 := funext fun i => by rw [g, g]
  rw [e]
  cases (List.range (min xs.length ys.length)).find? (fun i => xs.getD i 0 != ys.getD i 0) with
  | none => rfl
  | some i => simp only [g]

theorem cmpV_lex (xs ys : List UInt8) : cmpV (xs.map fun b => Value.int .u8 b.toNat).toArray (ys.map fun b => Value.int .u8 b.toNat).toArray = lexI xs ys := by
  have e : ∀ l : List UInt8, bytesV (l.map fun b => Value.int .u8 b.toNat).toArray = bs l := by
    intro l
    unfold bytesV bs
    congr 1
    rw [List.map_toArray, List.map_map]
    congr 1
    conv => rhs; rw [← List.map_id l]
    apply List.map_congr_left
    intro b _
    show (((b.toNat : Nat) : Int).toNat).toUInt8 = b
    simp
  unfold cmpV
  rw [e, e, cmp_lex]

/-- the number that bytes are -/
def numB (l : List UInt8) : Nat := l.foldl be 0
theorem foldl_be (l : List UInt8) : ∀ n : Nat, l.foldl be n = n * 256 ^ l.length + numB l := by
  unfold numB
  induction l with
  | nil => intro n; simp
  | cons x l ih =>
    intro n
    rw [List.foldl_cons, List.foldl_cons, ih, ih (be 0 x)]
    simp only [be, List.length_cons, Nat.pow_succ, Nat.mul_zero, Nat.zero_add]
    rw [Nat.add_mul, Nat.add_assoc, Nat.mul_comm 256 n, Nat.mul_assoc, Nat.mul_comm 256 (256 ^ l.length)]
theorem numB_cons (x : UInt8) (l : List UInt8) : numB (x :: l) = x.toNat * 256 ^ l.length + numB l := by
  show (x :: l).foldl be 0 = _
  rw [List.foldl_cons, foldl_be]
  simp [be]
theorem numB_lt (l : List UInt8) : numB l < 256 ^ l.length := by
  induction l with
  | nil => simp [numB]
  | cons x l ih =>
    rw [numB_cons, List.length_cons, Nat.pow_succ]
    have := x.toNat_lt
    have : x.toNat * 256 ^ l.length ≤ 255 * 256 ^ l.length := Nat.mul_le_mul_right _ (by omega)
    omega
def sgn (a b : Nat) : Int := if a < b then -1 else if b < a then 1 else 0
theorem lexI_num : ∀ {xs ys : List UInt8}, xs.length = ys.length → lexI xs ys = sgn (numB xs) (numB ys)
  | [], [], _ => rfl
  | x :: xs, y :: ys, h => by
    have hl : xs.length = ys.length := by simpa using h
    have ih := lexI_num hl
    have h1 := numB_lt xs
    have h2 := numB_lt ys
    rw [numB_cons, numB_cons, hl] at *
    unfold lexI
    by_cases hxy : x = y
    · subst hxy
      rw [if_pos rfl, ih]
      unfold sgn
      simp
    · rw [if_neg hxy]
      have hne : x.toNat ≠ y.toNat := fun e => hxy (UInt8.toNat_inj.1 e)
      unfold sgn
      by_cases hlt : x < y
      · rw [if_pos hlt]
        have h3 : x.toNat < y.toNat := UInt8.lt_iff_toNat_lt.1 hlt
        have h4 : (x.toNat + 1) * 256 ^ ys.length ≤ y.toNat * 256 ^ ys.length := Nat.mul_le_mul_right _ h3
        rw [Nat.add_mul] at h4
        rw [if_pos (by omega)]
      · rw [if_neg hlt]
        have h3 : y.toNat < x.toNat := by
          have : ¬ x.toNat < y.toNat := fun e => hlt (UInt8.lt_iff_toNat_lt.2 e)
          omega
        have h4 : (y.toNat + 1) * 256 ^ ys.length ≤ x.toNat * 256 ^ ys.length := Nat.mul_le_mul_right _ h3
        rw [Nat.add_mul] at h4
        rw [if_neg (by omega), if_pos (by omega)]
  | [], _ :: _, h => by simp at h
  | _ :: _, [], h => by simp at h
theorem numB_inj : ∀ {xs ys : List UInt8}, xs.length = ys.length → numB xs = numB ys → xs = ys
  | [], [], _, _ => rfl
  | x :: xs, y :: ys, h, e => by
    have hl : xs.length = ys.length := by simpa using h
    have h1 := numB_lt xs
    have h2 := numB_lt ys
    rw [numB_cons, numB_cons, hl] at e
    rw [hl] at h1
    have hx : x.toNat = y.toNat := by
      have a1 : (x.toNat * 256 ^ ys.length + numB xs) / 256 ^ ys.length = x.toNat := by
        rw [Nat.mul_comm, Nat.mul_add_div (Nat.pow_pos (by decide)), Nat.div_eq_of_lt h1]; rfl
      have a2 : (y.toNat * 256 ^ ys.length + numB ys) / 256 ^ ys.length = y.toNat := by
        rw [Nat.mul_comm, Nat.mul_add_div (Nat.pow_pos (by decide)), Nat.div_eq_of_lt h2]; rfl
      rw [← a1, e, a2]
    rw [UInt8.toNat_inj.1 hx, numB_inj hl (by rw [hx] at e; omega)]
  | [], _ :: _, h, _ => by simp at h
  | _ :: _, [], h, _ => by simp at h

theorem sgn_lt {a b : Nat} : (sgn a b < 0) = (a < b) := by
  unfold sgn; split <;> (try split) <;> simp <;> omega
theorem sgn_zero {a b : Nat} : (sgn a b = 0) = (a = b) := by
  unfold sgn; split <;> (try split) <;> simp <;> omega
theorem sgn_self (a : Nat) : sgn a a = 0 := by simp [sgn]

def addrN (a : Addr20) : Nat := numB a.toList
theorem addrN_lt (a : Addr20) : addrN a < 256 ^ 20 := by have := numB_lt a.toList; rw [show a.toList.length = 20 by simp] at this; exact this
theorem addrN_inj {a b : Addr20} (h : addrN a = addrN b) : a = b := Vector.toList_inj.1 (numB_inj (by simp) h)
theorem cmpV_addr (a b : Addr20) : cmpV (encAddr a).toArray (encAddr b).toArray = sgn (addrN a) (addrN b) := by
  unfold encAddr
  rw [cmpV_lex, lexI_num (by simp)]; rfl
theorem bytes_addr (a : Addr20) : (encAddr a).toArray.all isByte = true := by
  simp [encAddr, isByte]

/-! ### places -/
structure Pl where
  addr : Addr20
  whole : Bool
  key : Word4
deriving DecidableEq
instance : Inhabited Pl := ⟨⟨Vector.replicate 20 0, false, Vector.replicate 4 0⟩⟩
def encPl (p : Pl) : List Value := encAddr p.addr ++ (Value.bool p.whole :: encWord p.key)
theorem length_encPl (p : Pl) : (encPl p).length = 25 := by simp [encPl, length_encAddr, length_encWord]
theorem plain_encPl (p : Pl) : ∀ v ∈ encPl p, plain1 v = true := by
  intro v hv
  simp only [encPl, encAddr, encWord, List.mem_append, List.mem_map, List.mem_cons] at hv
  rcases hv with ⟨_, _, rfl⟩ | rfl | ⟨_, _, rfl⟩ <;> rfl
theorem tree_encPl (p : Pl) : ∀ v ∈ encPl p, Tree v := fun v hv => .plain _ (plain_encPl p v hv)
theorem encPl_inj {a b : Pl} (h : encPl a = encPl b) : a = b := by
  unfold encPl at h
  have h1 := List.append_inj h (by simp [length_encAddr])
  simp only [List.cons.injEq, Value.bool.injEq] at h1
  obtain ⟨g1, g2, g3⟩ := h1
  cases a; cases b
  simp only at g1 g2 g3
  rw [encAddr_inj g1, g2, encWord_inj g3]
def keyPl (p : Pl) : Value := .agg (encPl p).toArray
theorem keyPl_inj (a b : Pl) (h : keyPl a = keyPl b) : a = b := by
  unfold keyPl at h
  exact encPl_inj (by simpa using h)
theorem size_encPl (p : Pl) : (encPl p).toArray.size = 25 := by simp [length_encPl]
theorem pl_addr (p : Pl) : (encPl p).toArray.extract 0 20 = (encAddr p.addr).toArray := by
  apply Array.ext'
  simp only [Array.toList_extract, List.extract_eq_take_drop, encPl]
  rw [List.drop_zero, Nat.sub_zero, ← length_encAddr p.addr, List.take_left]
theorem pl_whole (p : Pl) : (encPl p)[20]? = some (.bool p.whole) := by
  rw [encPl, List.getElem?_append_right (by simp [length_encAddr]), length_encAddr]; rfl
theorem pl_key (p : Pl) : (encPl p).toArray.extract 21 25 = (encWord p.key).toArray := by
  apply Array.ext'
  simp only [Array.toList_extract, List.extract_eq_take_drop, encPl]
  rw [show encAddr p.addr ++ Value.bool p.whole :: encWord p.key = (encAddr p.addr ++ [Value.bool p.whole]) ++ encWord p.key by simp, List.drop_left' (by simp [length_encAddr]), List.take_of_length_le (by simp [length_encWord])]
theorem pl_all (p : Pl) : (encPl p).toArray.extract 0 25 = (encPl p).toArray := by rw [← size_encPl p, Array.extract_size]

/-- where a place stands -/
def Pl.rank (p : Pl) : Nat := (addrN p.addr * 2 + (if p.whole then 0 else 1)) * 2 ^ 256 + valW p.key
theorem rank_inj {p q : Pl} (h : p.rank = q.rank) : p = q := by
  unfold Pl.rank at h
  have h1 := valW_lt p.key
  have h2 := valW_lt q.key
  obtain ⟨a, b, c⟩ := p
  obtain ⟨a', b', c'⟩ := q
  simp only at *
  have e1 : c = c' := valW_inj (by omega)
  have e2 : addrN a * 2 + (if b then 0 else 1) = addrN a' * 2 + (if b' then 0 else 1) := by omega
  have e3 : addrN a = addrN a' := by
    revert e2; cases b <;> cases b' <;> simp <;> omega
  have e4 : b = b' := by
    revert e2; rw [e3]; cases b <;> cases b' <;> simp
  rw [addrN_inj e3, e4, e1]
def cmpPl (p q : Pl) : Int := sgn p.rank q.rank
theorem cmpPl_eq (p q : Pl) : cmpPl p q = if sgn (addrN p.addr) (addrN q.addr) ≠ 0 then sgn (addrN p.addr) (addrN q.addr) else if p.whole = q.whole then sgn (valW p.key) (valW q.key) else if p.whole then -1 else 1 := by
  have h1 := valW_lt p.key
  have h2 := valW_lt q.key
  unfold cmpPl Pl.rank
  obtain ⟨a, b, c⟩ := p
  obtain ⟨a', b', c'⟩ := q
  simp only at *
  generalize addrN a = m
  generalize addrN a' = n
  generalize valW c = x at *
  generalize valW c' = y at *
  unfold sgn
  cases b <;> cases b' <;> simp <;> (repeat' split) <;> first | rfl | omega
section
open Go.Proofs Go.Sort
theorem swo_rank {α : Type} (f : α → Nat) (hf : ∀ x y, f x = f y → x = y) : SWO (ltOf fun x y : α => sgn (f x) (f y)) ∧ ∀ x y, (ltOf fun x y : α => sgn (f x) (f y)) x y = false → (ltOf fun x y : α => sgn (f x) (f y)) y x = false → x = y := by
  have e : ∀ x y, (ltOf fun x y : α => sgn (f x) (f y)) x y = decide (f x < f y) := fun x y => by
    unfold ltOf; exact decide_eq_decide.2 (by rw [sgn_lt])
  refine ⟨⟨fun x => ?_, fun x y z h1 h2 => ?_, fun x y z h1 h2 => ?_⟩, fun x y h1 h2 => hf x y ?_⟩
  · rw [e]; simp
  · rw [e] at *; simp at *; omega
  · rw [e] at *; simp at *; omega
  · rw [e] at *; simp at *; omega
/-- sorted by a rank -/
theorem sorted_rank {α : Type} (f : α → Nat) (hf : ∀ x y, f x = f y → x = y) (l : List α) (hn : l.Nodup) : (l.mergeSort fun x y => !(ltOf fun x y : α => sgn (f x) (f y)) y x).Pairwise (fun x y => f x < f y) ∧ (l.mergeSort fun x y => !(ltOf fun x y : α => sgn (f x) (f y)) y x).Perm l := by
  have e : (fun x y : α => !(ltOf fun x y : α => sgn (f x) (f y)) y x) = fun x y => decide (f x ≤ f y) := by
    funext x y
    unfold ltOf
    rw [show decide (sgn (f y) (f x) < 0) = decide (f y < f x) from decide_eq_decide.2 (by rw [sgn_lt])]
    by_cases h : f y < f x
    · rw [decide_eq_true h, decide_eq_false (by omega)]; rfl
    · rw [decide_eq_false h, decide_eq_true (by omega)]; rfl
  rw [e]
  have hp := List.mergeSort_perm l (fun x y => decide (f x ≤ f y))
  have hs := List.pairwise_mergeSort (le := fun x y : α => decide (f x ≤ f y)) (fun a b c h1 h2 => by simp at *; omega) (fun a b => by simp; omega) l
  refine ⟨?_, hp⟩
  have hn2 := hp.nodup_iff.2 hn
  refine (hs.and hn2).imp fun {a b} ⟨h1, h2⟩ => ?_
  have : f a ≠ f b := fun h => h2 (hf _ _ h)
  simp at h1
  omega
end
/-- two lists that rise and hold the same are one -/
theorem rise_eq {α : Type} (f : α → Nat) : ∀ {l m : List α}, l.Pairwise (fun x y => f x < f y) → m.Pairwise (fun x y => f x < f y) → (∀ x, x ∈ l ↔ x ∈ m) → l = m
  | [], [], _, _, _ => rfl
  | [], y :: m, _, _, h => by have := (h y).2 (by simp); simp at this
  | x :: l, [], _, _, h => by have := (h x).1 (by simp); simp at this
  | x :: l, y :: m, h1, h2, h => by
    rw [List.pairwise_cons] at h1 h2
    have hxy : x = y := by
      rcases List.mem_cons.1 ((h x).1 (by simp)) with e | hx
      · exact e
      · rcases List.mem_cons.1 ((h y).2 (by simp)) with e | hy
        · exact e.symm
        · have := h1.1 y hy
          have := h2.1 x hx
          omega
    subst hxy
    rw [rise_eq f h1.2 h2.2 fun z => ?_]
    constructor
    · intro hz
      rcases List.mem_cons.1 ((h z).1 (List.mem_cons_of_mem _ hz)) with e | hz'
      · subst e; have := h1.1 z hz; omega
      · exact hz'
    · intro hz
      rcases List.mem_cons.1 ((h z).2 (List.mem_cons_of_mem _ hz)) with e | hz'
      · subst e; have := h2.1 z hz; omega
      · exact hz'
attribute [go_sem] length_encPl size_encPl pl_addr pl_whole pl_key pl_all
end Go.Am
set_option linter.unusedVariables false
set_option linter.unusedSimpArgs false
/- Iterators: equations; what a map's range tells. -/
namespace Go.Am
open Go

section
variable {P : Program} {Y : YRel} {hb : AH} {ops : Array Oper} {Q : PostI} {rest : List Oper} {dst : Option Tmp} {ys : List Tmp} {a : Array Value} {h : AH} {st : Option Code} {op : Op} {ty : TypeId} {pos : String} {after : Array Edge}

def istep (P : Program) (Y : YRel) (ops : Array Oper) (Q : PostI) (rest : List Oper) (dst : Option Tmp) (ys : List Tmp) (a : Array Value) (h : AH) (st : Option Code) : Option ARes → Prop
  | some (.val v h1) => awlI P Y ops Q rest (ydrop ys dst) (aput a dst v) h1 st
  | some (.skip h1) => awlI P Y ops Q rest (ydrop ys dst) (aput a dst undef) h1 st
  | some (.enter F args) => ∃ R, ACalls P F args h R ∧ ∀ v h1, R v h1 → awlI P Y ops Q rest (ydrop ys dst) (aput a dst v) h1 st
  | some (.any S) => ∀ v h1, S v h1 → awlI P Y ops Q rest (ydrop ys dst) (aput a dst v) h1 st
  | none => False
def iact (P : Program) (Y : YRel) (ops : Array Oper) (Q : PostI) (rest : List Oper) (dst : Option Tmp) (ys : List Tmp) (a : Array Value) (h : AH) (st : Option Code) (r : Option ARes) : YAct → Prop
  | .no => istep P Y ops Q rest dst ys a h st r
  | .moved => awlI P Y ops Q rest (ymove ys a.size dst) (aput a dst junk) h st
  | .called args => st = none ∧ Y (args.map (aeval P a)) h fun st1 h1 => awlI P Y ops Q rest (ydrop ys dst) (aput a dst (.bool st1.isNone)) h1 st1
theorem awlI_nil : awlI P Y ops Q [] ys a h st = Q .normal ys a h st := rfl
theorem awlI_cons : awlI P Y ops Q (⟨dst, op, ty, pos, after, none⟩ :: rest) ys a h st = iact P Y ops Q rest dst ys a h st (aop P (aeval P a) h ⟨dst, op, ty, pos, after, none⟩) (yact ys op) := by
  rw [awlI]
  simp only [gval]
  unfold iact istep
  cases yact ys op <;> rfl
theorem iact_no {r : Option ARes} : iact P Y ops Q rest dst ys a h st r .no = istep P Y ops Q rest dst ys a h st r := rfl
theorem iact_moved {r : Option ARes} : iact P Y ops Q rest dst ys a h st r .moved = awlI P Y ops Q rest (ymove ys a.size dst) (aput a dst junk) h st := rfl
theorem iact_called {r : Option ARes} {args : List Operand} : iact P Y ops Q rest dst ys a h st r (.called args.toArray) = (st = none ∧ Y (args.map (aeval P a)).toArray h fun st1 h1 => awlI P Y ops Q rest (ydrop ys dst) (aput a dst (.bool st1.isNone)) h1 st1) := by
  simp only [iact, List.map_toArray]
theorem istep_val {v : Value} {h1 : AH} : istep P Y ops Q rest dst ys a h st (some (.val v h1)) = awlI P Y ops Q rest (ydrop ys dst) (aput a dst v) h1 st := rfl
theorem istep_skip {h1 : AH} : istep P Y ops Q rest dst ys a h st (some (.skip h1)) = awlI P Y ops Q rest (ydrop ys dst) (aput a dst undef) h1 st := rfl
theorem istep_any {S : Value → AH → Prop} : istep P Y ops Q rest dst ys a h st (some (.any S)) = ∀ v h1, S v h1 → awlI P Y ops Q rest (ydrop ys dst) (aput a dst v) h1 st := rfl
theorem istep_call {F : FuncId} {args : Array Value} {R : Value → AH → Prop} {v : Value} {h1 : AH} (hc : ACalls P F args h (fun v' h' => v' = v ∧ h' = h1)) (k : awlI P Y ops Q rest (ydrop ys dst) (aput a dst v) h1 st) : istep P Y ops Q rest dst ys a h st (some (.enter F args)) :=
  ⟨_, hc, fun _ _ ⟨e1, e2⟩ => by subst e1; subst e2; exact k⟩
theorem ayI_skip : ayI P Y hb .skip Q ys a h st = Q .normal ys a h st := rfl
theorem ayI_region {id : Nat} {l : List Oper} : ayI P Y hb (.region id l.toArray false) Q ys a h st = awlI P Y l.toArray Q l ys a h st := rfl
theorem ayI_seq {x y : Code} : ayI P Y hb (.seq x y) Q ys a h st = ayI P Y hb x (thenI (ayI P Y hb y Q) Q) ys a h st := rfl
theorem ayI_block {id : Nat} {c : Code} : ayI P Y hb (.block id c) Q ys a h st = ayI P Y hb c (inBlockI id Q) ys a h st := rfl
theorem ayI_exit {id : Nat} : ayI P Y hb (.exit id) Q ys a h st = Q (.exit id) ys a h st := rfl
theorem ayI_ret : ayI P Y hb .ret Q ys a h st = Q .ret ys a h st := rfl
theorem ayI_loop {c : Code} : ayI P Y hb (.loop c) Q ys a h st = AWPI P Y hb (.loop c) Q ys a h st := rfl
def icond (P : Program) (Y : YRel) (hb : AH) (x y : Code) (Q : PostI) (ys : List Tmp) (a : Array Value) (h : AH) (st : Option Code) (v : Value) : Prop :=
  ∃ t, v = .bool t ∧ (t = true → ayI P Y hb x Q ys a h st) ∧ (t = false → ayI P Y hb y Q ys a h st)
theorem ayI_cond {c : Operand} {x y : Code} : ayI P Y hb (.cond c x y) Q ys a h st = icond P Y hb x y Q ys a h st (aeval P a c) := rfl
theorem icond_bool {x y : Code} {t : Bool} : icond P Y hb x y Q ys a h st (.bool t) = ((t = true → ayI P Y hb x Q ys a h st) ∧ (t = false → ayI P Y hb y Q ys a h st)) := by
  unfold icond
  apply propext
  constructor
  · rintro ⟨t', e, h1, h2⟩; cases e; exact ⟨h1, h2⟩
  · rintro ⟨h1, h2⟩; exact ⟨t, rfl, h1, h2⟩
theorem thenI_normal {next : List Tmp → Array Value → AH → Option Code → Prop} : thenI next Q .normal ys a h st = next ys a h st := rfl
theorem thenI_ret {next : List Tmp → Array Value → AH → Option Code → Prop} : thenI next Q .ret ys a h st = Q .ret ys a h st := rfl
theorem thenI_exit {next : List Tmp → Array Value → AH → Option Code → Prop} {id : Nat} : thenI next Q (.exit id) ys a h st = Q (.exit id) ys a h st := rfl
theorem inBlockI_normal {id : Nat} : inBlockI id Q .normal ys a h st = Q .normal ys a h st := rfl
theorem inBlockI_ret {id : Nat} : inBlockI id Q .ret ys a h st = Q .ret ys a h st := rfl
theorem inBlockI_exit {id id' : Nat} : inBlockI id Q (.exit id') ys a h st = if id' = id then Q .normal ys a h st else Q (.exit id') ys a h st := rfl
theorem postI_normal {Z : AH → Option Code → Prop} : postI Z .normal ys a h st = Z h st := rfl
theorem postI_ret {Z : AH → Option Code → Prop} : postI Z .ret ys a h st = Z h st := rfl
theorem ydrop_none : ydrop ys none = ys := rfl
theorem ydrop_nil {d : Tmp} : ydrop [] (some d) = [] := rfl
theorem ydrop_cons {t d : Tmp} : ydrop (t :: ys) (some d) = bif t == d then ydrop ys (some d) else t :: ydrop ys (some d) := by
  simp only [ydrop, List.filter_cons]
  cases t == d <;> rfl
theorem yact_tmp {t : Tmp} : yact ys (.move (.tmp t)) = bif ys.contains t then .moved else .no := by
  simp only [yact]; cases ys.contains t <;> rfl
theorem yact_call {t : Tmp} {args : Array Operand} {ts : Array TypeId} : yact ys (.call ⟨.value (.tmp t), args, ts⟩) = bif ys.contains t then .called args else .no := by
  simp only [yact]; cases ys.contains t <;> rfl
theorem contains_nil {t : Tmp} : ([] : List Tmp).contains t = false := rfl
theorem contains_cons {t d : Tmp} : (d :: ys).contains t = ((t == d) || ys.contains t) := rfl
end
section
variable {ys : List Tmp} {x y : Operand} {t u : TypeId}
theorem yact_alloc {e : TypeId} : yact ys (.alloc e) = .no := rfl
theorem yact_store : yact ys (.store t x y) = .no := rfl
theorem yact_load : yact ys (.load t x) = .no := rfl
theorem yact_range : yact ys (.range t x) = .no := rfl
theorem yact_next {b : Bool} : yact ys (.next x b) = .no := rfl
theorem yact_entry : yact ys (.entry x) = .no := rfl
theorem yact_extract {k : Nat} : yact ys (.extract x k) = .no := rfl
theorem yact_unOp {o : UnOp} : yact ys (.unOp o t x) = .no := rfl
theorem yact_binOp {o : BinOp} : yact ys (.binOp o t x y u) = .no := rfl
theorem yact_assign : yact ys (.assign x) = .no := rfl
theorem yact_const {v : Value} : yact ys (.move (.const v)) = .no := rfl
theorem yact_box {e : TypeId} : yact ys (.box e x) = .no := rfl
theorem yact_len {args : Array Operand} {ts : Array TypeId} {b : Builtin} : yact ys (.call ⟨.builtin b, args, ts⟩) = .no := rfl
theorem yact_callF {F : FuncId} {args : Array Operand} {ts : Array TypeId} : yact ys (.call ⟨.value (.func F), args, ts⟩) = .no := rfl
theorem yact_indexAddr : yact ys (.indexAddr t x y) = .no := rfl
theorem yact_fieldAddr {k : Nat} : yact ys (.fieldAddr t x k) = .no := rfl
theorem yact_pick {c : Operand} : yact ys (.pick c x y) = .no := rfl
end
attribute [go_sem ↓] awlI_nil awlI_cons iact_no iact_moved iact_called istep_val istep_skip istep_any ayI_skip ayI_region ayI_seq ayI_block ayI_exit ayI_ret ayI_loop ayI_cond thenI_normal thenI_ret thenI_exit inBlockI_normal inBlockI_ret inBlockI_exit postI_normal postI_ret
attribute [go_sem] icond_bool ydrop_none ydrop_nil ydrop_cons yact_tmp yact_call contains_nil contains_cons yact_alloc yact_store yact_load yact_range yact_next yact_entry yact_extract yact_unOp yact_binOp yact_assign yact_const yact_box yact_len yact_callF yact_indexAddr yact_fieldAddr yact_pick ymove Bool.or_true Bool.true_or Bool.or_false Option.isNone_none

/-- less is known -/
inductive LessL : List Value → List Value → Prop
  | nil : LessL [] []
  | same (v : Value) {l l1 : List Value} (r : LessL l l1) : LessL (v :: l) (v :: l1)
  | junk (v : Value) {l l1 : List Value} (r : LessL l l1) : LessL (v :: l) (Am.junk :: l1)
theorem LessL.spec {l l1 : List Value} (h : LessL l l1) : l1.length = l.length ∧ ∀ i : Nat, l1.getD i Am.junk = l.getD i Am.junk ∨ l1.getD i Am.junk = Am.junk := by
  induction h with
  | nil => exact ⟨rfl, fun i => .inr (by simp)⟩
  | same v _ ih => exact ⟨by simp [ih.1], fun i => by cases i with
      | zero => exact .inl rfl
      | succ i => simpa using ih.2 i⟩
  | junk v _ ih => exact ⟨by simp [ih.1], fun i => by cases i with
      | zero => exact .inr rfl
      | succ i => simpa using ih.2 i⟩
theorem AWPI.lessL {P : Program} {Y : YRel} {hb : AH} {c : Code} {Q : PostI} {ys ys1 : List Tmp} {l l1 : List Value} {h : AH} {st : Option Code} (hy : ∀ t ∈ ys1, t ∈ ys) (hl : LessL l l1) (ha : AWPI P Y hb c Q ys1 l1.toArray h st) : AWPI P Y hb c Q ys l.toArray h st := by
  obtain ⟨h1, h2⟩ := hl.spec
  exact AWPI.less hy (by simpa using h1) (fun i => by rw [getD_lit, getD_lit]; exact h2 i) ha

theorem AWPI.loopI {P : Program} {Y : YRel} {hb : AH} {c : Code} {Q : PostI} {ys : List Tmp} {l : List Value} {h : AH} {ι : Type} (M : ι → Nat) (Fr : ι → List Value) (Ys : List Tmp) (Hp : ι → AH → Prop) (i0 : ι) (hI : Hp i0 h) (hys : ∀ t ∈ Ys, t ∈ ys) (hl : LessL l (Fr i0))
    (round : ∀ i H, Hp i H → ayI P Y hb c (thenI (fun ys1 a1 h1 st1 => ∃ j, M j < M i ∧ Hp j h1 ∧ (∀ t ∈ Ys, t ∈ ys1) ∧ st1 = none ∧ ∃ l1, a1 = l1.toArray ∧ LessL l1 (Fr j)) Q) Ys (Fr i).toArray H none) : AWPI P Y hb (.loop c) Q ys l.toArray h none := by
  refine AWPI.loop (fun n ys1 a1 h1 st1 => ∃ j, n = M j ∧ Hp j h1 ∧ (∀ t ∈ Ys, t ∈ ys1) ∧ st1 = none ∧ ∃ l1, a1 = l1.toArray ∧ LessL l1 (Fr j)) (n := M i0) ⟨i0, rfl, hI, hys, rfl, l, rfl, hl⟩ ?_
  rintro n ys1 a1 h1 st1 ⟨j, rfl, hj, hy, rfl, l1, rfl, hl1⟩
  refine AWPI.lessL hy hl1 (AWPI.mono (ayI_sound _ _ _ _ _ _ (round j h1 hj)) fun e ys a h st hq => ?_)
  cases e with
  | normal =>
    obtain ⟨j2, h2, h3⟩ := hq
    exact ⟨M j2, h2, j2, rfl, h3⟩
  | _ => exact hq

/-- a row without twins, of what stands in another one, is no longer -/
theorem nodup_len {α : Type} [DecidableEq α] : ∀ {l m : List α}, l.Nodup → (∀ x ∈ l, x ∈ m) → l.length ≤ m.length
  | [], _, _, _ => Nat.zero_le _
  | x :: l, m, hn, hs => by
    rw [List.nodup_cons] at hn
    have hx : x ∈ m := hs x (by simp)
    have h1 := nodup_len (l := l) (m := m.erase x) hn.2 fun y hy => (List.mem_erase_of_ne fun e => by subst e; exact hn.1 hy).2 (hs y (List.mem_cons_of_mem _ hy))
    have h2 := List.length_erase_of_mem hx
    have h3 := List.length_pos_of_mem hx
    simp only [List.length_cons]
    omega

theorem apost_keep {P : Program} {h0 : AH} {fn : Func} {R : Value → AH → Prop} {v : Value} {k : Nat} {o : AObj} (hr : fn.results = #[.tmp k]) (hv : VRen id (h0.length + 1) v v) (ho : ORen id (h0.length + 1) o o) (hR : R v (h0 ++ [o])) (l : List Value) (hl : l.getD k junk = v) : apost P h0 fn R .ret l.toArray (h0 ++ [o]) :=
  ⟨v, v, h0 ++ [o], by rw [aresults_tmp hr, getD_lit, hl], (Keeps.easeT (P := P) (l := [v]) (l1 := [v]) ho (.keep hv .nil)), hR⟩

/-! ### a map's range -/
theorem amRangeM {P : Program} {h : AH} {t k : TypeId} {e : TypeId} {b clock : Nat} {es : Array MapEntry} (ht : P.underlying t = some (.map k e)) (hb : h[b]? = some (.map k es clock)) : amRange P h t (.map (some b)) = some (.pointer (some ⟨h.length, 0, none⟩), h ++ [.miter (some b) clock #[] clock]) := by
  simp only [amRange, ht, hb]

theorem nodup_of_map {α β : Type} (f : α → β) : ∀ {l : List α}, (l.map f).Nodup → l.Nodup
  | [], _ => List.nodup_nil
  | x :: l, h => by
    simp only [List.map_cons, List.nodup_cons] at h
    exact List.nodup_cons.2 ⟨fun hx => h.1 (List.mem_map_of_mem hx), nodup_of_map f h.2⟩

/-- of these entries the range has told -/
def miterO (b clock : Nat) (pre : List MapEntry) : AObj := .miter (some b) clock (pre.map (·.born)).toArray clock

theorem amNextM {P : Program} {H : AH} {r b clock : Nat} {k : TypeId} {es : Array MapEntry} {pre : List MapEntry} (hr : H[r]? = some (miterO b clock pre)) (hb : H[b]? = some (.map k es clock)) (ok : MapOk P k es.toList clock) :
    amNext H (.pointer (some ⟨r, 0, none⟩)) = some (.any fun v h1 => ((leftOf es (pre.map (·.born)).toArray).size = 0 ∧ v = .tuple #[.bool false] ∧ h1 = H) ∨
      ∃ e ∈ (leftOf es (pre.map (·.born)).toArray).toList, v = .tuple #[.bool true, e.key, e.val] ∧ h1 = H.set r (.miter (some b) clock ((pre.map (·.born)).toArray.push e.born) clock)) := by
  have h1 : es.all (fun e => decide (e.born < clock)) = true := by
    rw [Array.all_eq_true']
    intro e he
    simpa using ok.old e (by simpa using he)
  simp only [amNext, hr, miterO, hb, h1, Nat.le_refl, decide_true, Bool.and_self, if_true]

theorem miter_push {b clock : Nat} {pre : List MapEntry} {e : MapEntry} : AObj.miter (some b) clock ((pre.map (·.born)).toArray.push e.born) clock = miterO b clock (pre ++ [e]) := by
  simp [miterO]

theorem left_mem {es : Array MapEntry} {pre : List MapEntry} {e : MapEntry} (he : e ∈ (leftOf es (pre.map (·.born)).toArray).toList) : e ∈ es.toList ∧ e.born ∉ pre.map (·.born) := by
  simp only [leftOf, Array.mem_toList_iff, Array.mem_filter] at he
  exact ⟨by simpa using he.1, by simpa using he.2⟩
theorem left_done {P : Program} {k : TypeId} {es : Array MapEntry} {clock : Nat} {pre : List MapEntry} (ok : MapOk P k es.toList clock) (hsub : ∀ e ∈ pre, e ∈ es.toList) (hn : (pre.map (·.born)).Nodup) (h0 : (leftOf es (pre.map (·.born)).toArray).size = 0) : pre.Perm es.toList := by
  have hall : ∀ e ∈ es.toList, e.born ∈ pre.map (·.born) := by
    intro e he
    by_cases hx : e.born ∈ pre.map (·.born)
    · exact hx
    · exfalso
      have : e ∈ leftOf es (pre.map (·.born)).toArray := by
        simp only [leftOf, Array.mem_filter]
        exact ⟨by simpa using he, by simpa using hx⟩
      have := Array.size_pos_of_mem this
      omega
  have hes : es.toList.Nodup := by
    exact nodup_of_map _ ok.born
  have hpre : pre.Nodup := nodup_of_map _ hn
  refine (List.perm_ext_iff_of_nodup hpre hes).2 fun e => ⟨hsub e, fun he => ?_⟩
  obtain ⟨e', h1, h2⟩ := List.mem_map.1 (hall e he)
  have h3 := hsub e' h1
  obtain ⟨i, hi, rfl⟩ := List.getElem_of_mem he
  obtain ⟨j, hj, hje⟩ := List.getElem_of_mem h3
  have hb := List.pairwise_iff_getElem.1 (List.nodup_iff_pairwise_ne.1 ok.born)
  by_cases hij : i = j
  · subst hij; rw [hje]; exact h1
  · exfalso
    have hne : ∀ i j (hi : i < es.toList.length) (hj : j < es.toList.length), i < j → (es.toList[i]).born ≠ (es.toList[j]).born := fun i j hi hj hlt => by
      have := hb i j (by simpa using hi) (by simpa using hj) hlt
      simpa using this
    rw [← hje] at h2
    rcases Nat.lt_or_gt_of_ne hij with hlt | hlt
    · exact hne i j hi hj hlt h2.symm
    · exact hne j i hj hi hlt h2

theorem entryOfM {H : AH} {r b clock : Nat} {k : TypeId} {es : Array MapEntry} {pre : List MapEntry} {P : Program} {e : MapEntry} (hr : H[r]? = some (miterO b clock (pre ++ [e]))) (hb : H[b]? = some (.map k es clock)) (ok : MapOk P k es.toList clock) (he : e ∈ es.toList) :
    amEntryOf H (.pointer (some ⟨r, 0, none⟩)) = some (.tuple #[e.key, e.val]) := by
  have hback : ((pre ++ [e]).map (·.born)).toArray.back? = some e.born := by simp
  have hfind : es.find? (fun x => x.born == e.born) = some e := by
    obtain ⟨l⟩ := es
    simp only [List.find?_toArray]
    have hn := ok.born
    simp only at hn he
    clear hb ok hr hback
    induction l with
    | nil => simp at he
    | cons x l ih =>
      simp only [List.map_cons, List.nodup_cons] at hn
      rcases List.mem_cons.1 he with rfl | he
      · simp
      · have hne : x.born ≠ e.born := fun h => hn.1 (h ▸ List.mem_map_of_mem he)
        rw [List.find?_cons]
        have : (x.born == e.born) = false := by simpa using hne
        rw [this]
        exact ih he hn.2
  simp only [amEntryOf, hr, miterO, hb, hback, if_true, hfind, Option.map_some]
/-- a round, walked -/
theorem roundY_of_ay {P : Program} {a : Array Value} {ps : Array Tmp} {assign body : Code} {args : Array Value} {h : AH} {K : Option Code → AH → Prop} (hs : args.size = ps.size)
    (ha : ay P h assign (thenA (ay P h body (roundQ P h K)) fun _ _ _ => False) ((ps.zip args).foldl (fun t (p, v) => t.setIfInBounds p v) a) h) : roundY P a ps assign body args h K :=
  ⟨hs, AWP.mono (ay_sound _ _ _ _ ha) (thenA_mono fun a h hx => ay_sound _ _ _ _ hx)⟩
theorem fold1 {p : Tmp} {v : Value} {l : List Value} : ((#[p] : Array Tmp).zip #[v]).foldl (fun t (p, v) => t.setIfInBounds p v) l.toArray = (l.set p v).toArray := by simp
theorem fold2 {p q : Tmp} {v w : Value} {l : List Value} : ((#[p, q] : Array Tmp).zip #[v, w]).foldl (fun t (p, v) => t.setIfInBounds p v) l.toArray = ((l.set p v).set q w).toArray := by simp
theorem ay_range {P : Program} {h0 : AH} {g : Operand} {ps : Array Tmp} {asg c : Code} {Q : Exit → Array Value → AH → Prop} {a : Array Value} {h : AH} : ay P h0 (.rangeFunc g ps asg c) Q a h = AWP P h0 (.rangeFunc g ps asg c) Q a h := rfl
theorem roundQ_normal {P : Program} {h h2 : AH} {K : Option Code → AH → Prop} {a : Array Value} (hk : K none h2) : roundQ P h K .normal a h2 := ⟨h2, Eases.refl, hk⟩
attribute [go_sem ↓] ay_range

/-- what began as h -/
theorem began {h H : AH} (hp : ∀ i, i < h.length → H[i]? = h[i]?) (hl : h.length ≤ H.length) : H = h ++ H.drop h.length := by
  have e : H.take h.length = h := by
    apply List.ext_getElem?
    intro i
    rw [List.getElem?_take]
    split
    · rename_i hi; exact hp i hi
    · rename_i hi; rw [List.getElem?_eq_none (by omega)]
  conv => lhs; rw [← List.take_append_drop h.length H, e]
/-- a slice that has grown, in whatever block, comes to stand behind what was there -/
theorem Eases.grown {P : Program} {h H : AH} {α : Type} {enc : α → List Value} (ht : ∀ x, ∀ v ∈ enc x, Tree v) {q m : Nat} {l : List α} (hp : ∀ i, i < h.length → H[i]? = h[i]?) (hq : h.length ≤ q) (hb : H[q]? = some (outO enc m l)) :
    Eases P h #[outV q l] H #[outV h.length l] (h ++ [outO enc m l]) := by
  have hlt : q < H.length := (List.getElem?_eq_some_iff.1 hb).1
  have e := began hp (by omega)
  have h1 : (H.drop h.length)[q - h.length]? = some (outO enc m l) := by rw [List.getElem?_drop, show h.length + (q - h.length) = q by omega]; exact hb
  have h2 := Eases.pick1 (P := P) (h0 := h) (t := H.drop h.length) (l := [outV q l]) (l1 := [outV h.length l]) (q - h.length) (outO enc m l) ⟨_, h1, outO_ren ht⟩ (.keep (by
    have := outV_ren (n := h.length) (j := q - h.length) (l := l)
    rwa [show h.length + (q - h.length) = q by omega] at this) .nil)
  rw [← e] at h2
  exact h2
end Go.Am
set_option linter.unusedVariables false
set_option linter.unusedSimpArgs false
/- Rising rows of places; maps that are sets. -/
namespace Go.Am
open Go

/-- a place among others, that rise -/
def plIns : List Pl → Pl → List Pl
  | [], p => [p]
  | y :: l, p => if p.rank < y.rank then p :: y :: l else if p = y then y :: l else y :: plIns l p
def rise (L : List Pl) : List Pl := L.foldl plIns []

theorem mem_plIns {l : List Pl} {p x : Pl} : x ∈ plIns l p ↔ x ∈ l ∨ x = p := by
  induction l with
  | nil => simp [plIns]
  | cons y l ih =>
    unfold plIns
    split
    · simp only [List.mem_cons]
      constructor
      · rintro (h | h | h) <;> simp [h]
      · rintro ((h | h) | h) <;> simp [h]
    · split
      · rename_i h1 h2; subst h2; simp only [List.mem_cons]
        constructor
        · intro h; exact .inl h
        · rintro (h | h)
          · exact h
          · exact .inl h
      · simp only [List.mem_cons, ih]
        constructor
        · rintro (h | h | h) <;> simp [h]
        · rintro ((h | h) | h) <;> simp [h]
abbrev Rises (l : List Pl) : Prop := l.Pairwise fun x y => x.rank < y.rank
theorem rises_plIns {l : List Pl} {p : Pl} (h : Rises l) : Rises (plIns l p) := by
  induction l with
  | nil => simp [plIns, Rises]
  | cons y l ih =>
    unfold Rises at h
    rw [List.pairwise_cons] at h
    obtain ⟨h1, h2⟩ := h
    unfold plIns
    split
    · rename_i hlt
      refine List.pairwise_cons.2 ⟨fun x hx => ?_, List.pairwise_cons.2 ⟨h1, h2⟩⟩
      rcases List.mem_cons.1 hx with rfl | hx
      · exact hlt
      · have := h1 x hx; omega
    · split
      · exact List.pairwise_cons.2 ⟨h1, h2⟩
      · rename_i hlt hne
        refine List.pairwise_cons.2 ⟨fun x hx => ?_, ih h2⟩
        rcases mem_plIns.1 hx with hx | rfl
        · exact h1 x hx
        · have : x.rank ≠ y.rank := fun e => hne (rank_inj e)
          omega
theorem rise_snoc (L : List Pl) (p : Pl) : rise (L ++ [p]) = plIns (rise L) p := by simp [rise]
theorem rises_rise (L : List Pl) : Rises (rise L) := by
  have key : ∀ (L acc : List Pl), Rises acc → Rises (L.foldl plIns acc) := by
    intro L
    induction L with
    | nil => intro acc h; exact h
    | cons x L ih => intro acc h; exact ih _ (rises_plIns h)
  exact key L [] List.Pairwise.nil
theorem mem_rise {L : List Pl} {x : Pl} : x ∈ rise L ↔ x ∈ L := by
  have key : ∀ (L acc : List Pl), x ∈ L.foldl plIns acc ↔ x ∈ acc ∨ x ∈ L := by
    intro L
    induction L with
    | nil => intro acc; simp
    | cons y L ih =>
      intro acc
      rw [List.foldl_cons, ih, mem_plIns]
      simp only [List.mem_cons]
      constructor
      · rintro ((h | h) | h) <;> simp [h]
      · rintro (h | h | h) <;> simp [h]
  rw [rise, key]; simp
theorem rise_congr {L M : List Pl} (h : ∀ x, x ∈ L ↔ x ∈ M) : rise L = rise M :=
  rise_eq Pl.rank (rises_rise L) (rises_rise M) fun x => by rw [mem_rise, mem_rise, h]
theorem rises_nodup {l : List Pl} (h : Rises l) : l.Nodup :=
  List.nodup_iff_pairwise_ne.2 (h.imp fun {a b} hab e => by rw [e] at hab; omega)
theorem length_rise (L : List Pl) : (rise L).length ≤ L.length := nodup_len (rises_nodup (rises_rise L)) fun x hx => mem_rise.1 hx

/-! ### sets -/
def memF (L : List Pl) : Pl → Option Unit := fun y => if y ∈ L then some () else none
def encUn (_ : Unit) : Value := .agg #[]
abbrev SMap (P : Program) (k : TypeId) (es : Array MapEntry) (clk : Nat) (L : List Pl) := MFun P k keyPl encUn es clk (memF L)
theorem memF_snoc (L : List Pl) (x : Pl) : (fun y => if y = x then some () else memF L y) = memF (L ++ [x]) := by
  funext y
  unfold memF
  by_cases h1 : y = x
  · subst h1; simp
  · by_cases h2 : y ∈ L <;> simp [h1, h2]
theorem MFun.ren' {P : Program} {k : TypeId} {V : Type} {encV : V → Value} {es : Array MapEntry} {clk : Nat} {f : Pl → Option V} {σ : Nat → Nat} {L : Nat} (hv : ∀ v, Tree (encV v)) (hm : MFun P k keyPl encV es clk f) : ORen σ L (.map k es clk) (.map k es clk) :=
  ⟨es, rfl, rfl, fun i e he => ⟨e, he, rfl, rfl, by
    obtain ⟨v, h⟩ := hm.vals e (by have := Array.mem_of_getElem? he; simpa using this)
    rw [h]; exact (hv v).ren⟩⟩
theorem tree_encUn (u : Unit) : Tree (encUn u) := .agg _ fun i => by simp; exact .junk
theorem SMap.ren {P : Program} {k : TypeId} {es : Array MapEntry} {clk : Nat} {M : List Pl} {σ : Nat → Nat} {L : Nat} (hm : SMap P k es clk M) : ORen σ L (.map k es clk) (.map k es clk) := MFun.ren' tree_encUn hm

/-- the keys of a map, risen -/
theorem MFun.keysRise {P : Program} {k : TypeId} {V : Type} {encV : V → Value} {es : Array MapEntry} {clk : Nat} {f : Pl → Option V} {M : List Pl} (hm : MFun P k keyPl encV es clk f) (hf : ∀ x, (f x).isSome = true ↔ x ∈ M) :
    (∀ e ∈ es.toList, ∃ x : Pl, e.key = keyPl x) ∧ (es.toList.map (·.key)).Nodup ∧ (∀ x, x ∈ rise M ↔ keyPl x ∈ es.toList.map (·.key)) ∧ es.size ≤ M.length := by
  have hmem : ∀ x, x ∈ rise M ↔ keyPl x ∈ es.toList.map (·.key) := by
    intro x
    rw [mem_rise, ← hf x]
    cases hx : f x with
    | none =>
      have h1 := (findK_none (hm.keyed x) es.toList 0 hm.ok.keys).1 (hm.find_none hx)
      simp only [Option.isSome_none, Bool.false_eq_true, false_iff]
      intro h
      obtain ⟨e, he, hk⟩ := List.mem_map.1 h
      exact h1 e he hk
    | some v =>
      obtain ⟨j, e, h1, h2⟩ := hm.find_some hx
      obtain ⟨_, g1, g2⟩ := findK_some (hm.keyed x) es.toList 0 hm.ok.keys h1
      simp only [Option.isSome_some, true_iff]
      exact List.mem_map.2 ⟨e, List.mem_of_getElem? g1, g2⟩
  refine ⟨hm.keys, hm.ok.apart, hmem, ?_⟩
  have hl : ∃ l : List Pl, l.map keyPl = es.toList.map (·.key) := by
    have hk := hm.keys
    clear hmem hm
    generalize es.toList = el at hk
    induction el with
    | nil => exact ⟨[], rfl⟩
    | cons e el ih =>
      obtain ⟨l, hl⟩ := ih fun e' he' => hk e' (List.mem_cons_of_mem _ he')
      obtain ⟨x, hx⟩ := hk e (by simp)
      exact ⟨x :: l, by simp [hl, hx]⟩
  obtain ⟨l, hl⟩ := hl
  have hn : l.Nodup := nodup_of_map keyPl (by rw [hl]; exact hm.ok.apart)
  have h1 := nodup_len hn (m := M) fun x hx => mem_rise.1 ((hmem x).2 (by rw [← hl]; exact List.mem_map_of_mem hx))
  have h2 := congrArg List.length hl
  simp at h2
  omega
/-! ### places, made -/
theorem blit_mid (l : List Value) : ∀ (a b c : List Value), b.length = l.length → blit (a ++ (b ++ c)).toArray a.length l = (a ++ (l ++ c)).toArray := by
  induction l with
  | nil => intro a b c h; rw [List.length_eq_zero_iff.1 h]; rfl
  | cons v l ih =>
    intro a b c h
    match b, h with
    | x :: b, h =>
      rw [blit]
      have e : (a ++ (x :: b ++ c)).toArray.setIfInBounds a.length v = ((a ++ [v]) ++ (b ++ c)).toArray := by
        rw [List.setIfInBounds_toArray]
        congr 1
        rw [List.set_append_right _ _ (Nat.le_refl _), Nat.sub_self]
        simp
      rw [e]
      have := ih (a ++ [v]) b c (by simpa using h)
      rw [List.length_append] at this
      rw [show a.length + 1 = a.length + [v].length from rfl, this]
      simp
theorem pl_zero (a : Addr20) : blit (Array.replicate 20 (Value.int IntKind.u8 0) ++ (#[Value.bool false] ++ #[Value.int IntKind.u64 0, Value.int IntKind.u64 0, Value.int IntKind.u64 0, Value.int IntKind.u64 0])) 0 (encAddr a) = (encPl ⟨a, false, zeroW⟩).toArray := by
  have := blit_mid (encAddr a) [] (List.replicate 20 (Value.int IntKind.u8 0)) ([Value.bool false] ++ [Value.int IntKind.u64 0, Value.int IntKind.u64 0, Value.int IntKind.u64 0, Value.int IntKind.u64 0]) (by simp [length_encAddr])
  exact this
theorem pl_setKey (p : Pl) (w : Word4) : blit (encPl p).toArray 21 (encWord w) = (encPl ⟨p.addr, p.whole, w⟩).toArray := by
  have := blit_mid (encWord w) (encAddr p.addr ++ [Value.bool p.whole]) (encWord p.key) [] (by simp [length_encWord])
  have e : ∀ w : Word4, (encAddr p.addr ++ [Value.bool p.whole] ++ (encWord w ++ [])).toArray = (encPl ⟨p.addr, p.whole, w⟩).toArray := fun w => by simp [encPl]
  rw [e, e] at this
  simp only [List.length_append, length_encAddr, List.length_cons, List.length_nil] at this
  exact this
theorem pl_setWhole (p : Pl) (b : Bool) : (encPl p).toArray.setIfInBounds 20 (.bool b) = (encPl ⟨p.addr, b, p.key⟩).toArray := by
  rw [List.setIfInBounds_toArray]
  congr 1
  unfold encPl
  rw [List.set_append_right _ _ (by simp [length_encAddr]), length_encAddr]
  rfl
theorem pl_setL (p : Pl) (b : Bool) : (encPl p).set 20 (.bool b) = encPl ⟨p.addr, b, p.key⟩ := by
  unfold encPl
  rw [List.set_append_right _ _ (by simp [length_encAddr]), length_encAddr]
  rfl
theorem pl_blit1 (p : Pl) (b : Bool) : blit (encPl p).toArray 20 [.bool b] = (encPl ⟨p.addr, b, p.key⟩).toArray := pl_setWhole p b
attribute [go_sem] pl_zero pl_setKey pl_setWhole pl_setL pl_blit1
end Go.Am
