import Derived.Test.YtogefnepdjkioaaAm34
set_option linter.unusedVariables false
set_option linter.unusedSimpArgs false
/- Equality of rows of numbers. -/
namespace Go.Am
open Go

section
variable {P : Program} {t e : TypeId} {n : Nat} {k : IntKind}

theorem pure_info {i : TypeInfo} (hi : P.info? t = some i) : pureRun P (typeInfo t) = some i := by
  unfold typeInfo
  show pureRun P (match P.info? t with | some d => pure d | none => stuck _) = _
  rw [hi]; rfl
theorem pure_size {i : TypeInfo} (hi : P.info? t = some i) : pureRun P (sizeOf t) = some i.size := by
  unfold sizeOf
  rw [pureRun_bind _ _ (pure_info hi)]; rfl
theorem pure_part {v : Value} {cs : Array Value} {off : Nat} (he : P.underlying e = some (.int k)) (h : cs[off]? = some v) : pureRun P (part e cs off) = some v := by
  have : pureRun P (isAgg e) = some false := by
    unfold isAgg
    rw [pureRun_bind _ _ (pure_underlying he)]; rfl
  unfold part
  rw [pureRun_bind _ _ this]
  simp only [Bool.false_eq_true, if_false, h]; rfl
theorem pure_equalIn_int (d : Nat) (he : P.underlying e = some (.int k)) (a b : Int) : pureRun P (Op.equalIn (d + 1) e (.int k a) (.int k b)) = some (a == b) := by
  unfold Op.equalIn
  rw [pureRun_bind _ _ (pure_underlying he)]
  simp only [if_true]
  rfl

theorem all_range_int : ∀ (xs ys : List Int), xs.length = ys.length → ((List.range xs.length).all fun i => xs.getD i 0 == ys.getD i 0) = (xs == ys)
  | [], [], _ => rfl
  | x :: xs, y :: ys, h => by
    have ih := all_range_int xs ys (by simpa using h)
    rw [List.length_cons, List.range_succ_eq_map, List.all_cons, List.all_map]
    simp only [List.getD_cons_zero, Function.comp_def, List.getD_cons_succ, ih]
    simp [List.cons_beq_cons]
  | [], _ :: _, h => by simp at h
  | _ :: _, [], h => by simp at h

theorem pure_equalIn_ints (d : Nat) {i0 : TypeInfo} (hu : P.underlying t = some (.array n e)) (he : P.underlying e = some (.int k)) (hi : P.info? e = some i0) (hs : i0.size = 1) (xs ys : List Int) (hx : xs.length = n) (hy : ys.length = n) :
    pureRun P (Op.equalIn (d + 2) t (.agg (xs.map (Value.int k)).toArray) (.agg (ys.map (Value.int k)).toArray)) = some (xs == ys) := by
  rw [← all_range_int xs ys (hx.trans hy.symm), hx, List.range_eq_range', Op.equalIn]
  rw [pureRun_bind _ _ (pure_underlying hu)]
  simp only
  rw [pureRun_bind _ _ (pure_size hi), hs]
  simp only [Std.Legacy.Range.forIn_eq_forIn_range', Std.Legacy.Range.size, Nat.sub_zero, Nat.add_sub_cancel, Nat.div_one]
  have hl : ∀ i ∈ List.range' 0 n 1, i < n := fun i hi => by simpa using (List.mem_range'_1.1 hi).2
  generalize List.range' 0 n 1 = l at hl ⊢
  induction l with
  | nil => rfl
  | cons i l ih =>
    have hi : i < n := hl i (by simp)
    have px : pureRun P (part e (xs.map (Value.int k)).toArray (i * 1)) = some (.int k (xs.getD i 0)) :=
      pure_part he (by simp [List.getD, List.getElem?_eq_getElem (show i < xs.length by omega)])
    have py : pureRun P (part e (ys.map (Value.int k)).toArray (i * 1)) = some (.int k (ys.getD i 0)) :=
      pure_part he (by simp [List.getD, List.getElem?_eq_getElem (show i < ys.length by omega)])
    have pe : pureRun P (Op.equalIn (d + 1) e (.int k (xs.getD i 0)) (.int k (ys.getD i 0))) = some (xs.getD i 0 == ys.getD i 0) := pure_equalIn_int d he _ _
    rw [List.forIn_cons]
    simp only [List.all_cons, bind_assoc]
    rw [pureRun_bind _ _ px]
    rw [pureRun_bind _ _ py]
    rw [pureRun_bind _ _ pe]
    cases hb : (xs.getD i 0 == ys.getD i 0)
    · rfl
    · simp only [Bool.not_true, Bool.false_eq_true, if_false, Bool.true_and, pure_bind]
      exact ih fun j hj => hl j (by simp [hj])

/-- rows of one kind of number -/
theorem abin_eqlI {x y : Operand} {i0 : TypeInfo} (hu : P.underlying t = some (.array n e)) (he : P.underlying e = some (.int k)) (hi : P.info? e = some i0) (hs : i0.size = 1) (hg : P.eqGuardType P.depth t = false) (xs ys : List Int) (hx : xs.length = n) (hy : ys.length = n) :
    abinOp P .eql t x y (.agg (xs.map (Value.int k)).toArray) (.agg (ys.map (Value.int k)).toArray) = some (.bool (xs == ys)) ∧ abinOp P .neq t x y (.agg (xs.map (Value.int k)).toArray) (.agg (ys.map (Value.int k)).toArray) = some (.bool (!(xs == ys))) := by
  have hp : ∀ l : List Int, plainB (.agg (l.map (Value.int k)).toArray) = true := fun l => by
    show ((l.map (Value.int k)).toArray).all plain1 = true
    simp [plain1]
  have hE : pureRun P (Op.equal t (.agg (xs.map (Value.int k)).toArray) (.agg (ys.map (Value.int k)).toArray)) = some (xs == ys) :=
    pure_equalIn_ints (P := P) 9998 hu he hi hs xs ys hx hy
  have hG : ∀ op, pureRun P (eqGuard op t x y (.agg (xs.map (Value.int k)).toArray) (.agg (ys.map (Value.int k)).toArray)) = some () := fun op => by
    have key : pureRun P (if (!P.eqGuardType P.depth t) = true then pure () else (do
        if (← Op.eqGuardIn Op.maxDepth t (.agg (xs.map (Value.int k)).toArray) (.agg (ys.map (Value.int k)).toArray)) = true then unsupported (.noEntry "binop/eql: two nil values of an interface type with methods, in a part of a struct or an array") else pure ())) = some () := by
      rw [hg]; rfl
    cases op <;> first | rfl | exact key
  constructor
  · have e1 : abinOp P .eql t x y (.agg (xs.map (Value.int k)).toArray) (.agg (ys.map (Value.int k)).toArray) = plainOut (pureRun P (do eqGuard .eql t x y (.agg (xs.map (Value.int k)).toArray) (.agg (ys.map (Value.int k)).toArray); binOp .eql t (.agg (xs.map (Value.int k)).toArray) (.agg (ys.map (Value.int k)).toArray))) := by
      unfold abinOp
      simp only [hp, Bool.and_self, if_true]
    rw [e1, pureRun_bind _ _ (hG _)]
    show plainOut (pureRun P (Op.equal t _ _ >>= fun r => pure (Value.bool r))) = _
    rw [pureRun_bind _ _ hE]; rfl
  · have e1 : abinOp P .neq t x y (.agg (xs.map (Value.int k)).toArray) (.agg (ys.map (Value.int k)).toArray) = plainOut (pureRun P (do eqGuard .neq t x y (.agg (xs.map (Value.int k)).toArray) (.agg (ys.map (Value.int k)).toArray); binOp .neq t (.agg (xs.map (Value.int k)).toArray) (.agg (ys.map (Value.int k)).toArray))) := by
      unfold abinOp
      simp only [hp, Bool.and_self, if_true]
    rw [e1, pureRun_bind _ _ (hG _)]
    show plainOut (pureRun P (Op.equal t _ _ >>= fun r => pure (Value.bool !r))) = _
    rw [pureRun_bind _ _ hE]; rfl
end

/-! ### what stays of a frame where blocks move -/
inductive KeepsS (σ : Nat → Nat) (L : Nat) : List Value → List Value → Prop
  | nil : KeepsS σ L [] []
  | junk (v : Value) {l l1 : List Value} (r : KeepsS σ L l l1) : KeepsS σ L (v :: l) (Am.junk :: l1)
  | keep {v v1 : Value} {l l1 : List Value} (h : VRen σ L v1 v) (r : KeepsS σ L l l1) : KeepsS σ L (v :: l) (v1 :: l1)

theorem KeepsS.length {σ : Nat → Nat} {L : Nat} {l l1 : List Value} (h : KeepsS σ L l l1) : l1.length = l.length := by induction h <;> simp_all
theorem KeepsS.get {σ : Nat → Nat} {L : Nat} {l l1 : List Value} (h : KeepsS σ L l l1) : ∀ i : Nat, VRen σ L (l1.getD i Am.junk) (l.getD i Am.junk) := by
  induction h with
  | nil => intro i; simp; exact .junk _
  | junk v _ ih => intro i; cases i with
    | zero => simpa using VRen.junk v
    | succ i => simpa using ih i
  | keep h _ ih => intro i; cases i with
    | zero => simpa using h
    | succ i => simpa using ih i

/-- of the new blocks one stays, and comes first -/
theorem Eases.pick1 {P : Program} {h0 t : AH} {l l1 : List Value} (j : Nat) (o1 : AObj) (hobj : ∃ o, t[j]? = some o ∧ ORen (Am.pick h0.length [j]) (h0.length + 1) o1 o) (hv : KeepsS (Am.pick h0.length [j]) (h0.length + 1) l l1) :
    Eases P h0 l.toArray (h0 ++ t) l1.toArray (h0 ++ [o1]) := by
  refine Forget.eases (.inr ⟨Am.pick h0.length [j], GC.one j o1 hobj, by simpa using hv.length, fun i => ?_⟩)
  have := hv.get i
  simpa [Array.getD_eq_getD_getElem?, List.getD] using this
/-- a slice that has grown, in the block that stays -/
theorem outV_ren {α : Type} {n j : Nat} {l : List α} : VRen (Am.pick n [j]) (n + 1) (outV n l) (outV (n + j) l) := by
  cases l with
  | nil => exact .plain _ rfl
  | cons x l =>
    refine .slice _ _ _ _ _ (by simp) ?_
    have := pick_new n [j] 0
    simpa using this.symm
theorem outO_ren {α : Type} {σ : Nat → Nat} {L m : Nat} {enc : α → List Value} (ht : ∀ x, ∀ v ∈ enc x, Tree v) {l : List α} : ORen σ L (outO enc m l) (outO enc m l) := by
  cases l with
  | nil => trivial
  | cons x l =>
    refine ⟨_, rfl, rfl, fun i => Tree.ren ?_⟩
    by_cases hi : i < (flatV enc (x :: l)).size
    · have : (flatV enc (x :: l)).getD i Am.junk ∈ (x :: l).flatMap enc := by
        simp only [flatV, List.size_toArray] at hi
        simp only [flatV, Array.getD, List.size_toArray, hi, dite_true, Array.getInternal_eq_getElem, List.getElem_toArray]
        exact List.getElem_mem hi
      obtain ⟨y, _, hy⟩ := List.mem_flatMap.1 this
      exact ht y _ hy
    · rw [getD_ge i hi]; exact .junk
end Go.Am
