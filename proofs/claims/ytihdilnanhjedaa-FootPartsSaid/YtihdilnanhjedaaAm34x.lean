import Derived.Test.YtihdilnanhjedaaAm31x
set_option linter.unusedVariables false
set_option linter.unusedSimpArgs false
/- Equality of booleans and strings. -/
namespace Go.Am
open Go

section
variable {P : Program} {t : TypeId} {x y : Operand} {d : TypeDesc}

theorem pure_underlying (hu : P.underlying t = some d) : pureRun P (Go.underlying t) = some d := by
  unfold Go.underlying
  show pureRun P (match P.underlying t with | some d => pure d | none => stuck "no such type") = _
  rw [hu]; rfl
theorem pure_equal {a b : Value} {r : Bool} (h : pureRun P (Op.equal t a b) = some r) (hg : eqGuard .eql t x y a b = pure ()) (hb : binOp .eql t a b = (do pure (.bool (← Op.equal t a b)))) :
    pureRun P (do eqGuard .eql t x y a b; binOp .eql t a b) = some (.bool r) := by
  rw [hg, hb]
  show pureRun P (Op.equal t a b >>= fun r => pure (Value.bool r)) = _
  rw [pureRun_bind _ _ h]; rfl
theorem pure_nequal {a b : Value} {r : Bool} (h : pureRun P (Op.equal t a b) = some r) (hg : eqGuard .neq t x y a b = pure ()) (hb : binOp .neq t a b = (do pure (.bool !(← Op.equal t a b)))) :
    pureRun P (do eqGuard .neq t x y a b; binOp .neq t a b) = some (.bool !r) := by
  rw [hg, hb]
  show pureRun P (Op.equal t a b >>= fun r => pure (Value.bool !r)) = _
  rw [pureRun_bind _ _ h]; rfl
theorem equal_bool (hu : P.underlying t = some .bool) (a b : Bool) : pureRun P (Op.equal t (.bool a) (.bool b)) = some (a == b) := by
  have e : Op.equal t (.bool a) (.bool b) = Op.equalIn (9999 + 1) t (.bool a) (.bool b) := rfl
  rw [e]; unfold Op.equalIn
  rw [pureRun_bind _ _ (pure_underlying hu)]; rfl
theorem equal_string (hu : P.underlying t = some .string) (a b : ByteArray) : pureRun P (Op.equal t (.string a) (.string b)) = some (a == b) := by
  have e : Op.equal t (.string a) (.string b) = Op.equalIn (9999 + 1) t (.string a) (.string b) := rfl
  rw [e]; unfold Op.equalIn
  rw [pureRun_bind _ _ (pure_underlying hu)]; rfl
theorem abin_eqlB (hu : P.underlying t = some .bool) (a b : Bool) : abinOp P .eql t x y (.bool a) (.bool b) = some (.bool (a == b)) := by
  show plainOut _ = _
  rw [pure_equal (equal_bool hu a b) rfl rfl]; rfl
theorem abin_neqB (hu : P.underlying t = some .bool) (a b : Bool) : abinOp P .neq t x y (.bool a) (.bool b) = some (.bool (!(a == b))) := by
  show plainOut _ = _
  rw [pure_nequal (equal_bool hu a b) rfl rfl]; rfl
theorem abin_str {op : BinOp} {a b : ByteArray} {r : Value} (h : (do eqGuard op t x y (.string a) (.string b); binOp op t (.string a) (.string b)) = (pure r : Sem Value)) (hr : plainB r = true) (hop : op ≠ .shl ∧ op ≠ .shr) : abinOp P op t x y (.string a) (.string b) = some r := by
  have : abinOp P op t x y (.string a) (.string b) = plainOut (pureRun P (do eqGuard op t x y (.string a) (.string b); binOp op t (.string a) (.string b))) := by
    unfold abinOp
    cases op <;> simp [plainB, plain1]
  rw [this, h]
  show (if plainB r = true then some r else none) = some r
  rw [if_pos hr]
theorem abin_eqlS (a b : ByteArray) : abinOp P .eql t x y (.string a) (.string b) = some (.bool (a.toList == b.toList)) := abin_str rfl rfl (by decide)
theorem abin_neqS (a b : ByteArray) : abinOp P .neq t x y (.string a) (.string b) = some (.bool (!(a.toList == b.toList))) := abin_str rfl rfl (by decide)
theorem abin_addS (a b : ByteArray) (h : ((a.size + b.size : Nat) : Int) ≤ 2 ^ 63 - 1) : abinOp P .add t x y (.string a) (.string b) = some (.string (a ++ b)) := by
  refine abin_str ?_ rfl (by decide)
  show Op.stringOp .add a b = _
  unfold Op.stringOp
  simp only
  rw [if_neg]
  have : IntKind.i64.max = 2 ^ 63 - 1 := by decide
  rw [this]; omega
theorem abin_lssS (a b : ByteArray) : abinOp P .lss t x y (.string a) (.string b) = some (.bool (Op.bytesLess a.toList b.toList)) := abin_str rfl rfl (by decide)
theorem abin_gtrS (a b : ByteArray) : abinOp P .gtr t x y (.string a) (.string b) = some (.bool (!(Op.bytesLess a.toList b.toList || a.toList == b.toList))) := abin_str rfl rfl (by decide)
theorem abin_leqS (a b : ByteArray) : abinOp P .leq t x y (.string a) (.string b) = some (.bool (Op.bytesLess a.toList b.toList || a.toList == b.toList)) := abin_str rfl rfl (by decide)
theorem abin_geqS (a b : ByteArray) : abinOp P .geq t x y (.string a) (.string b) = some (.bool (!Op.bytesLess a.toList b.toList)) := abin_str rfl rfl (by decide)
attribute [go_sem] abin_eqlS abin_neqS abin_lssS abin_gtrS abin_leqS abin_geqS
end
def isBool (P : Program) (t : TypeId) : Bool := match P.underlying t with | some .bool => true | _ => false
theorem isBool_u {P : Program} {t : TypeId} (h : isBool P t = true) : P.underlying t = some .bool := by
  unfold isBool at h
  split at h
  · assumption
  · cases h
end Go.Am
set_option linter.unusedVariables false
set_option linter.unusedSimpArgs false
/- Equality of rows of numbers. -/
namespace Go.Am
open Go

section
variable {P : Program} {t e : TypeId} {n : Nat} {k : IntKind}

theorem pure_info {i : TypeInfo} (hi : P.info? t = some i) : pureRun P (typeInfo t) = some i := by
  unfold typeInfo
  show pureRun P (match P.info? t with | some d => pure d | none => stuck _) = _
  rw [hi]; rfl
theorem pure_size {i : TypeInfo} (hi : P.info? t = some i) : pureRun P (sizeOf t) = some i.size := by
  unfold sizeOf
  rw [pureRun_bind _ _ (pure_info hi)]; rfl
theorem pure_part {v : Value} {cs : Array Value} {off : Nat} (he : P.underlying e = some (.int k)) (h : cs[off]? = some v) : pureRun P (part e cs off) = some v := by
  have : pureRun P (isAgg e) = some false := by
    unfold isAgg
    rw [pureRun_bind _ _ (pure_underlying he)]; rfl
  unfold part
  rw [pureRun_bind _ _ this]
  simp only [Bool.false_eq_true, if_false, h]; rfl
theorem pure_equalIn_int (d : Nat) (he : P.underlying e = some (.int k)) (a b : Int) : pureRun P (Op.equalIn (d + 1) e (.int k a) (.int k b)) = some (a == b) := by
  unfold Op.equalIn
  rw [pureRun_bind _ _ (pure_underlying he)]
  simp only [if_true]
  rfl

theorem all_range_int : ∀ (xs ys : List Int), xs.length = ys.length → ((List.range xs.length).all fun i => xs.getD i 0 == ys.getD i 0) = (xs == ys)
  | [], [], _ => rfl
  | x :: xs, y :: ys, h => by
    have ih := all_range_int xs ys (by simpa using h)
    rw [List.length_cons, List.range_succ_eq_map, List.all_cons, List.all_map]
    simp only [List.getD_cons_zero, Function.comp_def, List.getD_cons_succ, ih]
    simp [List.cons_beq_cons]
  | [], _ :: _, h => by simp at h
  | _ :: _, [], h => by simp at h

theorem pure_equalIn_ints (d : Nat) {i0 : TypeInfo} (hu : P.underlying t = some (.array n e)) (he : P.underlying e = some (.int k)) (hi : P.info? e = some i0) (hs : i0.size = 1) (xs ys : List Int) (hx : xs.length = n) (hy : ys.length = n) :
    pureRun P (Op.equalIn (d + 2) t (.agg (xs.map (Value.int k)).toArray) (.agg (ys.map (Value.int k)).toArray)) = some (xs == ys) := by
  rw [← all_range_int xs ys (hx.trans hy.symm), hx, List.range_eq_range', Op.equalIn]
  rw [pureRun_bind _ _ (pure_underlying hu)]
  simp only
  rw [pureRun_bind _ _ (pure_size hi), hs]
  simp only [Std.Legacy.Range.forIn_eq_forIn_range', Std.Legacy.Range.size, Nat.sub_zero, Nat.add_sub_cancel, Nat.div_one]
  have hl : ∀ i ∈ List.range' 0 n 1, i < n := fun i hi => by simpa using (List.mem_range'_1.1 hi).2
  generalize List.range' 0 n 1 = l at hl ⊢
  induction l with
  | nil => rfl
  | cons i l ih =>
    have hi : i < n := hl i (by simp)
    have px : pureRun P (part e (xs.map (Value.int k)).toArray (i * 1)) = some (.int k (xs.getD i 0)) :=
      pure_part he (by simp [List.getD, List.getElem?_eq_getElem (show i < xs.length by omega)])
    have py : pureRun P (part e (ys.map (Value.int k)).toArray (i * 1)) = some (.int k (ys.getD i 0)) :=
      pure_part he (by simp [List.getD, List.getElem?_eq_getElem (show i < ys.length by omega)])
    have pe : pureRun P (Op.equalIn (d + 1) e (.int k (xs.getD i 0)) (.int k (ys.getD i 0))) = some (xs.getD i 0 == ys.getD i 0) := pure_equalIn_int d he _ _
    rw [List.forIn_cons]
    simp only [List.all_cons, bind_assoc]
    rw [pureRun_bind _ _ px]
    rw [pureRun_bind _ _ py]
    rw [pureRun_bind _ _ pe]
    cases hb : (xs.getD i 0 == ys.getD i 0)
    · rfl
    · simp only [Bool.not_true, Bool.false_eq_true, if_false, Bool.true_and, pure_bind]
      exact ih fun j hj => hl j (by simp [hj])

/-- rows of one kind of number -/
theorem abin_eqlI {x y : Operand} {i0 : TypeInfo} (hu : P.underlying t = some (.array n e)) (he : P.underlying e = some (.int k)) (hi : P.info? e = some i0) (hs : i0.size = 1) (hg : P.eqGuardType P.depth t = false) (xs ys : List Int) (hx : xs.length = n) (hy : ys.length = n) :
    abinOp P .eql t x y (.agg (xs.map (Value.int k)).toArray) (.agg (ys.map (Value.int k)).toArray) = some (.bool (xs == ys)) ∧ abinOp P .neq t x y (.agg (xs.map (Value.int k)).toArray) (.agg (ys.map (Value.int k)).toArray) = some (.bool (!(xs == ys))) := by
  have hp : ∀ l : List Int, plainB (.agg (l.map (Value.int k)).toArray) = true := fun l => by
    show ((l.map (Value.int k)).toArray).all plain1 = true
    simp [plain1]
  have hE : pureRun P (Op.equal t (.agg (xs.map (Value.int k)).toArray) (.agg (ys.map (Value.int k)).toArray)) = some (xs == ys) :=
    pure_equalIn_ints (P := P) 9998 hu he hi hs xs ys hx hy
  have hG : ∀ op, pureRun P (eqGuard op t x y (.agg (xs.map (Value.int k)).toArray) (.agg (ys.map (Value.int k)).toArray)) = some () := fun op => by
    have key : pureRun P (if (!P.eqGuardType P.depth t) = true then pure () else (do
        if (← Op.eqGuardIn Op.maxDepth t (.agg (xs.map (Value.int k)).toArray) (.agg (ys.map (Value.int k)).toArray)) = true then unsupported (.noEntry "binop/eql: two nil values of an interface type with methods, in a part of a struct or an array") else pure ())) = some () := by
      rw [hg]; rfl
    cases op <;> first | rfl | exact key
  constructor
  · have e1 : abinOp P .eql t x y (.agg (xs.map (Value.int k)).toArray) (.agg (ys.map (Value.int k)).toArray) = plainOut (pureRun P (do eqGuard .eql t x y (.agg (xs.map (Value.int k)).toArray) (.agg (ys.map (Value.int k)).toArray); binOp .eql t (.agg (xs.map (Value.int k)).toArray) (.agg (ys.map (Value.int k)).toArray))) := by
      unfold abinOp
      simp only [hp, Bool.and_self, if_true]
    rw [e1, pureRun_bind _ _ (hG _)]
    show plainOut (pureRun P (Op.equal t _ _ >>= fun r => pure (Value.bool r))) = _
    rw [pureRun_bind _ _ hE]; rfl
  · have e1 : abinOp P .neq t x y (.agg (xs.map (Value.int k)).toArray) (.agg (ys.map (Value.int k)).toArray) = plainOut (pureRun P (do eqGuard .neq t x y (.agg (xs.map (Value.int k)).toArray) (.agg (ys.map (Value.int k)).toArray); binOp .neq t (.agg (xs.map (Value.int k)).toArray) (.agg (ys.map (Value.int k)).toArray))) := by
      unfold abinOp
      simp only [hp, Bool.and_self, if_true]
    rw [e1, pureRun_bind _ _ (hG _)]
    show plainOut (pureRun P (Op.equal t _ _ >>= fun r => pure (Value.bool !r))) = _
    rw [pureRun_bind _ _ hE]; rfl
end

/-! ### what stays of a frame where blocks move -/
inductive KeepsS (σ : Nat → Nat) (L : Nat) : List Value → List Value → Prop
  | nil : KeepsS σ L [] []
  | junk (v : Value) {l l1 : List Value} (r : KeepsS σ L l l1) : KeepsS σ L (v :: l) (Am.junk :: l1)
  | keep {v v1 : Value} {l l1 : List Value} (h : VRen σ L v1 v) (r : KeepsS σ L l l1) : KeepsS σ L (v :: l) (v1 :: l1)

theorem KeepsS.length {σ : Nat → Nat} {L : Nat} {l l1 : List Value} (h : KeepsS σ L l l1) : l1.length = l.length := by induction h <;> simp_all
theorem KeepsS.get {σ : Nat → Nat} {L : Nat} {l l1 : List Value} (h : KeepsS σ L l l1) : ∀ i : Nat, VRen σ L (l1.getD i Am.junk) (l.getD i Am.junk) := by
  induction h with
  | nil => intro i; simp; exact .junk _
  | junk v _ ih => intro i; cases i with
    | zero => simpa using VRen.junk v
    | succ i => simpa using ih i
  | keep h _ ih => intro i; cases i with
    | zero => simpa using h
    | succ i => simpa using ih i

/-- of the new blocks one stays, and comes first -/
theorem Eases.pick1 {P : Program} {h0 t : AH} {l l1 : List Value} (j : Nat) (o1 : AObj) (hobj : ∃ o, t[j]? = some o ∧ ORen (Am.pick h0.length [j]) (h0.length + 1) o1 o) (hv : KeepsS (Am.pick h0.length [j]) (h0.length + 1) l l1) :
    Eases P h0 l.toArray (h0 ++ t) l1.toArray (h0 ++ [o1]) := by
  refine Forget.eases (.inr ⟨Am.pick h0.length [j], GC.one j o1 hobj, by simpa using hv.length, fun i => ?_⟩)
  have := hv.get i
  simpa [Array.getD_eq_getD_getElem?, List.getD] using this
/-- a slice that has grown, in the block that stays -/
theorem outV_ren {α : Type} {n j : Nat} {l : List α} : VRen (Am.pick n [j]) (n + 1) (outV n l) (outV (n + j) l) := by
  cases l with
  | nil => exact .plain _ rfl
  | cons x l =>
    refine .slice _ _ _ _ _ (by simp) ?_
    have := pick_new n [j] 0
    simpa using this.symm
theorem outO_ren {α : Type} {σ : Nat → Nat} {L m : Nat} {enc : α → List Value} (ht : ∀ x, ∀ v ∈ enc x, Tree v) {l : List α} : ORen σ L (outO enc m l) (outO enc m l) := by
  cases l with
  | nil => trivial
  | cons x l =>
    refine ⟨_, rfl, rfl, fun i => Tree.ren ?_⟩
    by_cases hi : i < (flatV enc (x :: l)).size
    · have : (flatV enc (x :: l)).getD i Am.junk ∈ (x :: l).flatMap enc := by
        simp only [flatV, List.size_toArray] at hi
        simp only [flatV, Array.getD, List.size_toArray, hi, dite_true, Array.getInternal_eq_getElem, List.getElem_toArray]
        exact List.getElem_mem hi
      obtain ⟨y, _, hy⟩ := List.mem_flatMap.1 this
      exact ht y _ hy
    · rw [getD_ge i hi]; exact .junk
end Go.Am
set_option linter.unusedVariables false
set_option linter.unusedSimpArgs false
/- Addresses, words, bytes, numbers as cells. -/
namespace Go.Am
open Go

abbrev Addr20 := Vector UInt8 20
abbrev Word4 := Vector UInt64 4
def encAddr (a : Addr20) : List Value := a.toList.map fun b => .int .u8 b.toNat
def encWord (w : Word4) : List Value := w.toList.map fun b => .int .u64 b.toNat
def encU8 (b : UInt8) : List Value := [.int .u8 b.toNat]
def encI (n : Int) : List Value := [.int .i64 n]
theorem length_encAddr (a : Addr20) : (encAddr a).length = 20 := by simp [encAddr]
theorem length_encWord (a : Word4) : (encWord a).length = 4 := by simp [encWord]
theorem length_encU8 (a : UInt8) : (encU8 a).length = 1 := rfl
theorem length_encI (a : Int) : (encI a).length = 1 := rfl
theorem load_encU8 {l : List UInt8} {i : Nat} (hi : i < l.length) : mkLoadF (flatV encU8 l) i (some (false, 1)) = some (.int .u8 (l[i].toNat : Nat)) := loadF_one (f := fun b : UInt8 => .int .u8 b.toNat) hi
theorem load_encI {l : List Int} {i : Nat} (hi : i < l.length) : mkLoadF (flatV encI l) i (some (false, 1)) = some (.int .i64 l[i]) := loadF_one (f := fun b : Int => .int .i64 b) hi
attribute [go_sem] length_encAddr length_encWord length_encU8 length_encI load_encU8 load_encI
theorem tree_encAddr (a : Addr20) : ∀ v ∈ encAddr a, Tree v := by
  intro v hv; obtain ⟨_, _, rfl⟩ := List.mem_map.1 hv; exact .plain _ rfl
theorem tree_encWord (a : Word4) : ∀ v ∈ encWord a, Tree v := by
  intro v hv; obtain ⟨_, _, rfl⟩ := List.mem_map.1 hv; exact .plain _ rfl
theorem tree_encU8 (a : UInt8) : ∀ v ∈ encU8 a, Tree v := by
  intro v hv; simp only [encU8, List.mem_singleton] at hv; subst hv; exact .plain _ rfl
theorem tree_encI (a : Int) : ∀ v ∈ encI a, Tree v := by
  intro v hv; simp only [encI, List.mem_singleton] at hv; subst hv; exact .plain _ rfl

theorem map_inj {α : Type} {f : α → Value} (hf : ∀ x y, f x = f y → x = y) : ∀ {a b : List α}, a.map f = b.map f → a = b
  | [], [], _ => rfl
  | x :: a, y :: b, h => by simp only [List.map_cons, List.cons.injEq] at h; rw [hf _ _ h.1, map_inj hf h.2]
  | [], _ :: _, h => by simp at h
  | _ :: _, [], h => by simp at h
theorem encAddr_inj {a b : Addr20} (h : encAddr a = encAddr b) : a = b := by
  have := map_inj (fun x y e => by simp only [Value.int.injEq, true_and] at e; exact UInt8.toNat_inj.1 (by omega)) h
  exact Vector.toList_inj.1 this
theorem encWord_inj {a b : Word4} (h : encWord a = encWord b) : a = b := by
  have := map_inj (fun x y e => by simp only [Value.int.injEq, true_and] at e; exact UInt64.toNat_inj.1 (by omega)) h
  exact Vector.toList_inj.1 this

/-- a row of numbers: its length, their kind -/
def rowK (P : Program) (t : TypeId) : Option (Nat × IntKind) :=
  match P.underlying t with
  | some (.array n e) => match P.underlying e, P.info? e with
    | some (.int k), some i => if i.size = 1 ∧ P.eqGuardType P.depth t = false then some (n, k) else none
    | _, _ => none
  | _ => none
theorem rowK_spec {P : Program} {t : TypeId} {n : Nat} {k : IntKind} (h : rowK P t = some (n, k)) : ∃ e i, P.underlying t = some (.array n e) ∧ P.underlying e = some (.int k) ∧ P.info? e = some i ∧ i.size = 1 ∧ P.eqGuardType P.depth t = false := by
  unfold rowK at h
  split at h
  · rename_i n' e hu
    split at h
    · rename_i k' i hk hi
      split at h
      · rename_i hc
        cases h
        exact ⟨e, i, hu, hk, hi, hc.1, hc.2⟩
      · cases h
    · cases h
  · cases h
section
variable {P : Program} {t : TypeId} {x y : Operand}
theorem abin_row {n : Nat} {k : IntKind} (h : rowK P t = some (n, k)) (xs ys : List Int) (hx : xs.length = n) (hy : ys.length = n) :
    abinOp P .eql t x y (.agg (xs.map (Value.int k)).toArray) (.agg (ys.map (Value.int k)).toArray) = some (.bool (xs == ys)) ∧ abinOp P .neq t x y (.agg (xs.map (Value.int k)).toArray) (.agg (ys.map (Value.int k)).toArray) = some (.bool (!(xs == ys))) := by
  obtain ⟨e, i, h1, h2, h3, h4, h5⟩ := rowK_spec h
  exact abin_eqlI h1 h2 h3 h4 h5 xs ys hx hy
theorem encAddr_map (a : Addr20) : encAddr a = (a.toList.map fun b => (b.toNat : Int)).map (Value.int .u8) := by simp [encAddr]
theorem encWord_map (a : Word4) : encWord a = (a.toList.map fun b => (b.toNat : Int)).map (Value.int .u64) := by simp [encWord]
theorem addr_beq (a b : Addr20) : ((a.toList.map fun b => (b.toNat : Int)) == (b.toList.map fun b => (b.toNat : Int))) = decide (a = b) := by
  rw [Bool.eq_iff_iff, beq_iff_eq, decide_eq_true_iff]
  constructor
  · intro h
    exact encAddr_inj (by rw [encAddr_map, encAddr_map, h])
  · intro h; rw [h]
theorem word_beq (a b : Word4) : ((a.toList.map fun b => (b.toNat : Int)) == (b.toList.map fun b => (b.toNat : Int))) = decide (a = b) := by
  rw [Bool.eq_iff_iff, beq_iff_eq, decide_eq_true_iff]
  constructor
  · intro h
    exact encWord_inj (by rw [encWord_map, encWord_map, h])
  · intro h; rw [h]
theorem abin_eqlAddr (h : rowK P t = some (20, .u8)) (a b : Addr20) : abinOp P .eql t x y (.agg (encAddr a).toArray) (.agg (encAddr b).toArray) = some (.bool (decide (a = b))) := by
  rw [encAddr_map, encAddr_map, (abin_row h _ _ (by simp) (by simp)).1, addr_beq]
theorem abin_neqAddr (h : rowK P t = some (20, .u8)) (a b : Addr20) : abinOp P .neq t x y (.agg (encAddr a).toArray) (.agg (encAddr b).toArray) = some (.bool (!decide (a = b))) := by
  rw [encAddr_map, encAddr_map, (abin_row h _ _ (by simp) (by simp)).2, addr_beq]
theorem abin_eqlWord (h : rowK P t = some (4, .u64)) (a b : Word4) : abinOp P .eql t x y (.agg (encWord a).toArray) (.agg (encWord b).toArray) = some (.bool (decide (a = b))) := by
  rw [encWord_map, encWord_map, (abin_row h _ _ (by simp) (by simp)).1, word_beq]
theorem abin_neqWord (h : rowK P t = some (4, .u64)) (a b : Word4) : abinOp P .neq t x y (.agg (encWord a).toArray) (.agg (encWord b).toArray) = some (.bool (!decide (a = b))) := by
  rw [encWord_map, encWord_map, (abin_row h _ _ (by simp) (by simp)).2, word_beq]
end
end Go.Am
