import Derived.Test.YtihdilnanhjedaaAm9x
import Derived.Maps.RangeRun
import Derived.Lib.BytesEntry
import Derived.Laws.Externs
import Derived.CallsIn
import Derived.TacticsIn
import Derived.OrdersIn
import Derived.LoopNIn
import Derived.RangeFuncLeaves
import Derived.RangeFuncRecord
import Derived.RangeFuncCalls
set_option linter.unusedVariables false
set_option linter.unusedSimpArgs false
/- One operation. -/
namespace Go.Am
open Go

inductive ARes where
  | val (v : Value) (h : AH)
  | skip (h : AH)
  | enter (F : FuncId) (args : Array Value)
  | any (S : Value → AH → Prop)

def hasBody (P : Program) (F : FuncId) : Bool :=
  match P.funcs[F]? with
  | some fn => fn.name != "runtime.NumGoroutine" && fn.body.isSome
  | none => false

def aval (h : AH) : Option Value → Option ARes
  | some v => some (.val v h)
  | none => none

def avalh : Option (Value × AH) → Option ARes
  | some (v, h) => some (.val v h)
  | none => none

def askip : Option AH → Option ARes
  | some h => some (.skip h)
  | none => none

/-- the comparison of bytes, which has no body -/
def isCompare (P : Program) (F : FuncId) : Bool :=
  match P.funcs[F]? with
  | some fn => fn.name == "internal/bytealg.Compare" && fn.origin == "" && fn.body.isNone
  | none => false

def isByte : Value → Bool
  | .int .u8 _ => true
  | _ => false
def byteOf : Value → UInt8
  | .int _ n => n.toNat.toUInt8
  | _ => 0
def bytesV (c : Array Value) : ByteArray := ⟨c.map byteOf⟩
def cmpV (c d : Array Value) : Int := Extern.BytealgCompare.cmp (bytesV c) (bytesV d)
def isSlice : Value → Bool
  | .slice .. => true
  | .func (.yield 0) _ _ => true
  | _ => false

def acompare (h : AH) (x y : Value) : Option Value :=
  if isSlice x = true ∧ isSlice y = true then
    match asource h 1 x, asource h 1 y with
    | some (_, c), some (_, d) => if c.all isByte = true ∧ d.all isByte = true then some (.int .i64 (cmpV c d)) else none
    | _, _ => none
  else none

def isName (P : Program) (F : FuncId) (nm : String) : Bool :=
  match P.funcs[F]? with
  | some fn => fn.name == nm && fn.origin == "" && fn.body.isNone
  | none => false

/-- sums and differences with a carry -/
def acarry (add : Bool) (x y c : Value) : Option Value :=
  match x, y, c with
  | .int .u64 a, .int .u64 b, .int .u64 d => if d.toNat ≤ 1 then
      (if add then some (.tuple #[.int .u64 (Int.ofNat ((a.toNat + b.toNat + d.toNat) % 2 ^ 64)), .int .u64 (Int.ofNat ((a.toNat + b.toNat + d.toNat) / 2 ^ 64))])
       else some (.tuple #[.int .u64 (Int.ofNat ((a.toNat + 2 ^ 64 - b.toNat - d.toNat) % 2 ^ 64)), .int .u64 (Int.ofNat (if a.toNat < b.toNat + d.toNat then 1 else 0))])) else none
  | _, _, _ => none

def aextern (P : Program) (h : AH) (F : FuncId) (args : Array Value) : Option ARes :=
  match args.toList with
  | [x] => if isName P F "internal/abi.NoEscape" then aval h (some x) else none
  | [x, y] => if isCompare P F then aval h (acompare h x y) else none
  | [x, y, c] => if isName P F "math/bits.Add64" then aval h (acarry true x y c) else if isName P F "math/bits.Sub64" then aval h (acarry false x y c) else none
  | _ => none

def acall (P : Program) (h : AH) (fv : Value) (args : Array Value) : Option ARes :=
  match fv with
  | .func (.func F) first captured => if hasBody P F then some (.enter F (first ++ args ++ captured)) else aextern P h F (first ++ args ++ captured)
  | _ => none

/-- where a slice of bytes lies -/
def asliceData : Value → Option Value
  | .slice (some ⟨b, o, none⟩) _ c => if c ≠ 0 then some (.pointer (some ⟨b, o, none⟩)) else none
  | .func (.yield 2) _ _ => some (.pointer none)
  | _ => none
/-- bytes as a string: nobody writes them any more -/
def astring (P : Program) (h : AH) (t : TypeId) (p n : Value) : Option (Value × AH) :=
  match P.underlying t, p, n with
  | some (.pointer _), .pointer none, .int _ 0 => some (.string .empty, h)
  | some (.pointer e), .pointer (some ⟨b, o, none⟩), .int _ n => match h[b]? with
    | some (.cells c es true) => if 0 < n ∧ n ≤ IntKind.i64.max ∧ es = tagN + e ∧ P.cellsOf e = 1 ∧ o + n.toNat ≤ c.size then
        (bytesIn (c.extract o (o + n.toNat)).toList).map fun l => (.string ⟨l.toArray⟩, h.set b .dead) else none
    | _ => none
  | _, _, _ => none

def abuiltin (P : Program) (h : AH) (b : Builtin) (ts : Array TypeId) (ty : TypeId) (args : Array Value) : Option ARes :=
  match b, ts.toList, args.toList with
  | .len, [t], [x] => aval h (alen P h t x)
  | .append, [t, u], [s, x] => avalh (aappend P h t u s x)
  | .copy, [t, _], [d, s] => avalh (acopy P h t d s)
  | .delete, [t, _], [m, k] => avalh (amDelete P h t m k)
  | .unsafeSliceData, [_], [s] => aval h (asliceData s)
  | .unsafeString, [t, _], [p, n] => avalh (astring P h t p n)
  | .min, _, _ => if args.all plainB then aval h (plainOut (pureRun P (Builtin.min_ ts ty args))) else none
  | .max, _, _ => if args.all plainB then aval h (plainOut (pureRun P (Builtin.max_ ts ty args))) else none
  | _, _, _ => none

def amMake (P : Program) (h : AH) (t : TypeId) : Option (Value × AH) :=
  match P.underlying t with
  | some (.map k _) => if keyTy P k then some (.map (some h.length), h ++ [.map k #[] 0]) else none
  | _ => none

def amRange (P : Program) (h : AH) (t : TypeId) (x : Value) : Option (Value × AH) :=
  match P.underlying t, x with
  | some (.map _ _), .map none => some (.pointer (some ⟨h.length, 0, none⟩), h ++ [.miter none 0 #[] 0])
  | some (.map _ _), .map (some b) => match h[b]? with
    | some (.map _ _ clock) => some (.pointer (some ⟨h.length, 0, none⟩), h ++ [.miter (some b) clock #[] clock])
    | _ => none
  | _, _ => none

def amNext (h : AH) (it : Value) : Option ARes :=
  match it with
  | .pointer (some ⟨r, 0, none⟩) => match h[r]? with
    | some (.miter none _ _ _) => some (.val (.tuple #[.bool false]) h)
    | some (.miter (some m) since seen c0) => match h[m]? with
      | some (.map _ es clock) => if es.all (fun e => decide (e.born < since)) && decide (since ≤ c0) then
          some (.any fun v h1 => ((leftOf es seen).size = 0 ∧ v = .tuple #[.bool false] ∧ h1 = h) ∨
            ∃ e ∈ (leftOf es seen).toList, v = .tuple #[.bool true, e.key, e.val] ∧ h1 = h.set r (.miter (some m) since (seen.push e.born) clock)) else none
      | _ => none
    | _ => none
  | _ => none

def amEntryOf (h : AH) (it : Value) : Option Value :=
  match it with
  | .pointer (some ⟨r, 0, none⟩) => match h[r]? with
    | some (.miter (some m) _ seen stepped) => match h[m]?, seen.back? with
      | some (.map _ es clock), some b => if clock = stepped then (es.find? (·.born == b)).map fun e => .tuple #[e.key, e.val] else none
      | _, _ => none
    | _ => none
  | _ => none

/-- what is not needed for most -/
def amore (P : Program) (ρ : Operand → Value) (h : AH) (o : Oper) : Option ARes := none

def aop (P : Program) (ρ : Operand → Value) (h : AH) (o : Oper) : Option ARes :=
  match o.op with
  | .move x => some (.val (ρ x) h)
  | .assign x => some (.val (ρ x) h)
  | .pick c a b => match ρ c with
    | .bool t => some (.val (if t then ρ a else ρ b) h)
    | _ => none
  | .alloc e => avalh (aalloc P h e)
  | .box _ x => avalh (abox h (ρ x))
  | .build t ps => aval h (abuild P t (ps.toList.map fun (i, x) => (i, ρ x)))
  | .buildSlice t n ps => avalh (abuildSlice P h t n (ps.toList.map fun (i, x) => (i, ρ x)))
  | .load t a => aval h (aload P h t (ρ a))
  | .store t a x => askip (astore P h t (ρ a) (ρ x))
  | .nilCheck x => aval h (anilCheck (ρ x))
  | .binOp op t x y _ => aval h (abinOp P op t x y (ρ x) (ρ y))
  | .unOp op _ x => aval h (aunOp P op (ρ x))
  | .convert s d x => avalh (aconvert P h s d (ρ x))
  | .sliceToArrayPointer t x => aval h (aarrayPtr P t (ρ x))
  | .makeInterface t x => aval h (amakeIface P t (ρ x))
  | .makeFunc fn xs cs => aval h (amakeFunc fn (xs.map ρ) (cs.map ρ))
  | .makeMap t none => avalh (amMake P h t)
  | .makeSlice t l c => avalh (amakeSlice P h t (ρ l) (ρ c))
  | .slice t x lo hi none => aval h (aslice P h t (ρ x) (lo.map ρ) (hi.map ρ))
  | .fieldAddr t x k => aval h (afieldAddr P t (ρ x) k)
  | .field t x k => aval h (afield P t (ρ x) k)
  | .indexAddr t x i => aval h (aindexAddr P t (ρ x) (ρ i))
  | .index t x i => aval h (aindex P t (ρ x) (ρ i))
  | .extract x k => aval h (aextract (ρ x) k)
  | .call c => match c.callee with
    | .value f => acall P h (ρ f) (c.args.map ρ)
    | .builtin b => abuiltin P h b c.argTypes o.type (c.args.map ρ)
    | _ => none
  | .lookup t x i ok => aval h (amLookup P h t (ρ x) (ρ i) ok)
  | .mapUpdate t m k x => askip (amUpdate P h t (ρ m) (ρ k) (ρ x))
  | .insert t m k x => askip (amUpdate P h t (ρ m) (ρ k) (ρ x))
  | .mapEntry t m k => avalh (amEntry P h t (ρ m) (ρ k))
  | .entryStore _ m s x => askip (amEntryStore h (ρ m) (ρ s) (ρ x))
  | .range t x => avalh (amRange P h t (ρ x))
  | .next it false => amNext h (ρ it)
  | .entry it => aval h (amEntryOf h (ρ it))
  | _ => amore P ρ h o

def ResOk (P : Program) (f : Emb) (h : AH) (w : World) : ARes → Result Next → Prop
  | .val v h1, res => ∃ f1 v' w1, res = .ok (.value v') w1 ∧ Step P f h w f1 h1 w1 ∧ VRel f1 h1.length v v'
  | .skip h1, res => ∃ f1 w1, res = .ok .skip w1 ∧ Step P f h w f1 h1 w1
  | .enter F args, res => ∃ args', res = .ok (.enter F args') w ∧ ARel f h.length args args'
  | .any S, res => ∃ f1 v v' h1 w1, res = .ok (.value v') w1 ∧ S v h1 ∧ Step P f h w f1 h1 w1 ∧ VRel f1 h1.length v v'

theorem aval_some {h : AH} {o : Option Value} {r : ARes} (ha : aval h o = some r) : ∃ v, o = some v ∧ r = .val v h := by
  cases o <;> simp [aval] at ha; exact ⟨_, rfl, ha.symm⟩
theorem avalh_some {o : Option (Value × AH)} {r : ARes} (ha : avalh o = some r) : ∃ v h, o = some (v, h) ∧ r = .val v h := by
  cases o <;> simp [avalh] at ha; exact ⟨_, _, rfl, ha.symm⟩
theorem askip_some {o : Option AH} {r : ARes} (ha : askip o = some r) : ∃ h, o = some h ∧ r = .skip h := by
  cases o <;> simp [askip] at ha; exact ⟨_, rfl, ha.symm⟩

theorem prel_map {f : Emb} {L : Nat} {ρ ρ' : Operand → Value} (hr : ∀ x, VRel f L (ρ x) (ρ' x)) (ps : List (Nat × Operand)) :
    PRel f L (ps.map fun (i, x) => (i, ρ x)) (ps.map fun (i, x) => (i, ρ' x)) := by
  induction ps with
  | nil => trivial
  | cons p r ih => exact ⟨rfl, hr _, ih⟩

theorem arel_map {f : Emb} {L : Nat} {ρ ρ' : Operand → Value} (hr : ∀ x, VRel f L (ρ x) (ρ' x)) (xs : Array Operand) : ARel f L (xs.map ρ) (xs.map ρ') := by
  refine ⟨by simp, fun i => ?_⟩
  by_cases hi : i < xs.size
  · simp [Array.getD, hi]; exact hr _
  · rw [getD_ge i (by simpa using hi)]; exact .junk _

theorem arel_append {f : Emb} {L : Nat} {A A' B B' : Array Value} (h : ARel f L A A') (k : ARel f L B B') : ARel f L (A ++ B) (A' ++ B') := by
  refine ⟨by simp [h.1, k.1], fun i => ?_⟩
  by_cases hi : i < A.size
  · rw [getD_append_left' _ _ _ hi, getD_append_left' _ _ _ (h.1 ▸ hi)]; exact h.2 i
  · rw [getD_append_right' _ _ _ (by omega), getD_append_right' _ _ _ (by have := h.1; omega), h.1]; exact k.2 _

theorem optrel_map {f : Emb} {L : Nat} {ρ ρ' : Operand → Value} (hr : ∀ x, VRel f L (ρ x) (ρ' x)) (o : Option Operand) : OptRel f L (o.map ρ) (o.map ρ') := by
  cases o with
  | none => trivial
  | some x => exact hr x

theorem run_callFunc {P : Program} {F : FuncId} (h : hasBody P F = true) (args : Array Value) (w : World) : (callFunc F args).run P w = .ok (.enter F args) w := by
  unfold hasBody at h
  split at h
  · rename_i fn hf
    simp only [Bool.and_eq_true, bne_iff_ne, ne_eq] at h
    have h1 : (fn.name == "runtime.NumGoroutine") = false := by simpa using h.1
    have h2 : fn.body.isNone = false := by cases hb : fn.body <;> simp_all
    simp only [callFunc, Sem.run_bind, run_program, Result.andThen_ok, hf, h1, h2, Bool.false_eq_true, if_false, Sem.run_pure]
  · cases h

theorem isCompare_run {P : Program} {F : FuncId} (h : isCompare P F = true) (args : Array Value) (w : World) : (callFunc F args).run P w = ((Extern.BytealgCompare.compare args).run P w).andThen fun v w' => .ok (.value v) w' := by
  unfold isCompare at h
  split at h
  · rename_i fn hf
    simp only [Bool.and_eq_true, beq_iff_eq] at h
    obtain ⟨⟨h1, h2⟩, h3⟩ := h
    refine run_callFunc_extern hf (by rw [h1]; rfl) h3 ?_ ?_ args w
    · simp only [Extern.findNext, h1, h2]
      have e1 : Extern.allNextRows.lookup "internal/bytealg.Compare" = none := by kernel_rfl
      have e2 : Extern.allNextRows.lookup "" = none := by kernel_rfl
      rw [e1, e2]; rfl
    · simp only [Extern.find, h1, h2]
      have e1 : Extern.allGenericRows.lookup "internal/bytealg.Compare" = none := by kernel_rfl
      have e2 : Extern.allTypedRows.lookup "internal/bytealg.Compare" = none := by kernel_rfl
      have e3 : Extern.allRows.lookup "internal/bytealg.Compare" = some Extern.BytealgCompare.compare := by kernel_rfl
      rw [e1, e2, e3]; rfl
  · cases h

theorem isName_run {P : Program} {F : FuncId} {nm : String} {g : Array Value → Sem Value} (h : isName P F nm = true) (e0 : Extern.allNextRows.lookup nm = none) (e0' : Extern.allNextRows.lookup "" = none) (e1 : Extern.allGenericRows.lookup nm = none) (e1' : Extern.allGenericRows.lookup "" = none) (e2 : Extern.allTypedRows.lookup nm = none) (e3 : Extern.allRows.lookup nm = some g)
    (hn : nm ≠ "runtime.NumGoroutine") (args : Array Value) (w : World) : (callFunc F args).run P w = ((g args).run P w).andThen fun v w' => .ok (.value v) w' := by
  unfold isName at h
  split at h
  · rename_i fn hf
    simp only [Bool.and_eq_true, beq_iff_eq] at h
    obtain ⟨⟨h1, h2⟩, h3⟩ := h
    refine run_callFunc_extern hf (by rw [h1]; simpa using hn) h3 ?_ ?_ args w
    · simp only [Extern.findNext, h1, h2]
      rw [e0, e0']; rfl
    · simp only [Extern.find, h1, h2]
      rw [e1, e2, e3]; rfl
  · cases h

theorem three_run {P : Program} (nm : String) (a b d : Int) (k1 k2 k3 : IntKind) (hd : d.toNat ≤ 1) (w : World) : (Extern.MathBitsCarry.three nm #[.int k1 a, .int k2 b, .int k3 d]).run P w = .ok (a.toNat, b.toNat, d.toNat) w := by
  have e : Extern.MathBitsCarry.three nm #[.int k1 a, .int k2 b, .int k3 d] = (do
      let c := (← asInt (Value.int k3 d)).toNat
      if c > 1 then unsupported (.noEntry ("extern/math/bits." ++ nm ++ ": a carry that is neither 0 nor 1"))
      pure ((← asInt (Value.int k1 a)).toNat, (← asInt (Value.int k2 b)).toNat, c)) := rfl
  rw [e]
  have hd' : ¬ (d.toNat > 1) := by omega
  simp only [Sem.run_bind, asInt, asIntOf, Sem.run_pure, Result.andThen_ok, hd', if_false]

theorem carry_run {P : Program} {F : FuncId} {add : Bool} (h : isName P F (if add then "math/bits.Add64" else "math/bits.Sub64") = true) {x y c r : Value} (hr : acarry add x y c = some r) (w : World) :
    (callFunc F #[x, y, c]).run P w = .ok (.value r) w ∧ ∃ a b : Int, r = .tuple #[.int .u64 a, .int .u64 b] := by
  unfold acarry at hr
  split at hr
  case h_2 => cases hr
  rename_i a b d
  split at hr
  case isFalse => cases hr
  rename_i hd
  have hd' : ¬ (d.toNat > 1) := by omega
  cases add with
  | true =>
    simp only [if_true, Option.some.injEq] at hr
    subst hr
    refine ⟨?_, _, _, rfl⟩
    rw [isName_run (nm := "math/bits.Add64") h (by kernel_rfl) (by kernel_rfl) (by kernel_rfl) (by kernel_rfl) (by kernel_rfl) (g := fun args => do let (x, y, c) ← Extern.MathBitsCarry.three "Add64" args; pure (Extern.MathBitsCarry.pair ((x + y + c) % Extern.MathBitsCarry.m64) ((x + y + c) / Extern.MathBitsCarry.m64))) (by kernel_rfl) (by decide)]
    simp only [Sem.run_bind, three_run _ _ _ _ _ _ _ hd, Sem.run_pure, Result.andThen_ok, Extern.MathBitsCarry.pair, Extern.MathBitsCarry.m64]
  | false =>
    simp only [Bool.false_eq_true, if_false, Option.some.injEq] at hr
    subst hr
    refine ⟨?_, _, _, rfl⟩
    rw [isName_run (nm := "math/bits.Sub64") h (by kernel_rfl) (by kernel_rfl) (by kernel_rfl) (by kernel_rfl) (by kernel_rfl) (g := fun args => do let (x, y, c) ← Extern.MathBitsCarry.three "Sub64" args; pure (Extern.MathBitsCarry.pair ((x + Extern.MathBitsCarry.m64 - y - c) % Extern.MathBitsCarry.m64) (if x < y + c then 1 else 0))) (by kernel_rfl) (by decide)]
    simp only [Sem.run_bind, three_run _ _ _ _ _ _ _ hd, Sem.run_pure, Result.andThen_ok, Extern.MathBitsCarry.pair, Extern.MathBitsCarry.m64]

theorem bytesV_nil : bytesV #[] = .empty := by apply ByteArray.ext; simp [bytesV, ByteArray.empty, ByteArray.emptyWithCapacity]; rfl
theorem compare_two (a b : Value) : Extern.BytealgCompare.compare #[a, b] = (do pure (goInt (Extern.BytealgCompare.cmp (← Extern.Bytes.bytesOf a) (← Extern.Bytes.bytesOf b)))) := rfl

theorem Held.bytes {P : Program} {f : Emb} {L : Nat} {w : World} {c0 : Array Value} {r base : Nat} (hh : Held f L w c0 r base) (o n' c' : Nat) (hle : o + n' ≤ c0.size) (hb : (c0.extract o (o + n')).all isByte = true) :
    (Extern.Bytes.bytesOf (.slice (some ⟨r, base + o, none⟩) n' c')).run P w = .ok (bytesV (c0.extract o (o + n'))) w := by
  obtain ⟨cc, elem, fr, ho', h5, h6⟩ := hh
  let xs := (List.range n').map fun j => match c0.getD (o + j) junk with | .int _ m => m | _ => 0
  have hcell : ∀ j x, xs[j]? = some x → w.cell? ((⟨r, base + o, none⟩ : Addr).add j) = some (.int .u8 x) := by
    intro j x hj
    have hj' : j < n' := by have := (List.getElem?_eq_some_iff.1 hj).1; simpa [xs] using this
    have e : (⟨r, base + o, none⟩ : Addr).add j = ⟨r, base + (o + j), none⟩ := by unfold Addr.add; split <;> simp_all <;> omega
    rw [e]
    have hin : o + j < c0.size := by omega
    have hrel := (h6 (o + j) hin).1
    have hby : isByte (c0.getD (o + j) junk) = true := by
      rw [Array.all_eq_true] at hb
      have := hb j (by simp; omega)
      simpa [Array.getD, hin] using this
    simp only [xs, List.getElem?_map, List.getElem?_range hj', Option.map_some, Option.some.injEq] at hj
    generalize hv : c0.getD (o + j) junk = v at hrel hby hj
    have : ∃ m, v = .int .u8 m := by
      unfold isByte at hby
      split at hby
      · exact ⟨_, rfl⟩
      · cases hby
    obtain ⟨m, rfl⟩ := this
    simp only at hj
    subst hj
    have hrv := hrel.int_inv
    unfold World.cell?
    rw [ho']
    have hin' : base + (o + j) < cc.size := by omega
    simp only [Option.isSome_none, Bool.false_eq_true, if_false]
    rw [Array.getElem?_eq_getElem hin']
    simpa [Array.getD, hin'] using hrv
  have hlen : xs.length = n' := by simp [xs]
  have := Lib.run_loadBytesX (P := P) w xs ⟨r, base + o, none⟩ .empty hcell
  rw [hlen] at this
  show (Extern.Bytes.loadBytes _ n' .empty).run P w = _
  rw [this]
  congr 1
  apply ByteArray.ext
  have e0 : ByteArray.empty.data = #[] := rfl
  simp only [bytesV, e0, Array.empty_append]
  apply Array.ext
  · simp [Lib.bytesOf, xs]; omega
  · intro i hi1 hi2
    have hi : i < n' := by simpa [Lib.bytesOf, xs] using hi1
    have hin : o + i < c0.size := by omega
    have hby : isByte (c0.getD (o + i) junk) = true := by
      rw [Array.all_eq_true] at hb
      have := hb i (by simp; omega)
      simpa [Array.getD, hin] using this
    have e2 : c0.getD (o + i) junk = c0[o + i] := by simp [Array.getD, hin]
    simp only [Lib.bytesOf, xs, List.getElem_toArray, List.getElem_map, List.getElem_range, Array.getElem_map, Array.getElem_extract, e2]
    rw [e2] at hby
    generalize c0[o + i] = v at hby
    unfold isByte at hby
    split at hby
    · rfl
    · cases hby

theorem sound_bytes {P : Program} {f : Emb} {h : AH} {w : World} (hs : Sim P f h w) {x x' : Value} (hx : VRel f h.length x x') (hsl : isSlice x = true) {n : Nat} {c : Array Value} (ha : asource h 1 x = some (n, c)) (hb : c.all isByte = true) :
    (Extern.Bytes.bytesOf x').run P w = .ok (bytesV c) w := by
  unfold asource at ha
  split at ha
  · rename_i b o n' cap
    split at ha
    · rename_i hz
      simp only [Option.some.injEq, Prod.mk.injEq] at ha
      obtain ⟨rfl, rfl⟩ := ha
      subst hz
      rcases hx.slice_inv with ⟨c', rfl, _, _⟩ | ⟨_, _, a', rfl, _⟩ <;> (rw [bytesV_nil]; rfl)
    · rename_i hnz
      split at ha
      · rename_i c0 es rw hbk
        split at ha
        · rename_i hle
          simp only [Option.some.injEq, Prod.mk.injEq, Nat.mul_one] at ha hle
          obtain ⟨rfl, rfl⟩ := ha
          rcases hx.slice_inv with ⟨c', rfl, hbL, hc⟩ | ⟨h0, _, _, _, _⟩
          · exact (hs.held hbk).bytes o n' c' hle hb
          · exact absurd h0 hnz
        · cases ha
      · cases ha
  · rename_i n' cap
    split at ha
    · rename_i hz
      simp only [Option.some.injEq, Prod.mk.injEq] at ha
      obtain ⟨rfl, rfl⟩ := ha
      subst hz
      cases hx
      rw [bytesV_nil]; rfl
    · cases ha
  · simp [isSlice] at hsl
  · rename_i cs ks
    obtain ⟨n0, rfl, hcz⟩ := hx.fz_inv
    rw [fzN_lit] at ha
    simp only [Nat.mul_one] at ha
    split at ha
    case isFalse => cases ha
    rename_i hle
    simp only [Option.some.injEq, Prod.mk.injEq] at ha
    obtain ⟨rfl, rfl⟩ := ha
    rcases hcz with ⟨r0, o0, c0, ds0, rfl, hrom, hle2, hn, hxy, hone⟩ | ⟨rfl, rfl, a, c0, rfl⟩
    · have := (hs.heldRom hrom hle2 hxy hone).bytes (P := P) 0 n0 c0 (by omega) (by simpa using hb)
      simpa using this
    · have e : (#[] : Array Value).extract 0 0 = #[] := rfl
      rw [e, bytesV_nil]; rfl
  · cases ha

theorem arr1 {α : Type} {a : Array α} {x : α} (h : a.toList = [x]) : a = #[x] := by cases a; simp_all
theorem arr2 {α : Type} {a : Array α} {x y : α} (h : a.toList = [x, y]) : a = #[x, y] := by cases a; simp_all

theorem arel_one {f : Emb} {L : Nat} {x : Value} {ys : Array Value} (h : ARel f L #[x] ys) : ∃ y, ys = #[y] ∧ VRel f L x y := by
  obtain ⟨l⟩ := ys
  match l, h with
  | [y], h => exact ⟨y, rfl, by simpa using h.2 0⟩
  | [], h => simp [ARel] at h
  | _ :: _ :: _, h => simp [ARel] at h

theorem arel_two {f : Emb} {L : Nat} {x x2 : Value} {ys : Array Value} (h : ARel f L #[x, x2] ys) : ∃ y y2, ys = #[y, y2] ∧ VRel f L x y ∧ VRel f L x2 y2 := by
  obtain ⟨l⟩ := ys
  match l, h with
  | [y, y2], h => exact ⟨y, y2, rfl, by simpa using h.2 0, by simpa using h.2 1⟩
  | [], h => simp [ARel] at h
  | [_], h => simp [ARel] at h
  | _ :: _ :: _ :: _, h => simp [ARel] at h

theorem arr3 {α : Type} {a : Array α} {x y z : α} (h : a.toList = [x, y, z]) : a = #[x, y, z] := by cases a; simp_all
theorem arel_three {f : Emb} {L : Nat} {x x2 x3 : Value} {ys : Array Value} (h : ARel f L #[x, x2, x3] ys) : ∃ y y2 y3, ys = #[y, y2, y3] ∧ VRel f L x y ∧ VRel f L x2 y2 ∧ VRel f L x3 y3 := by
  obtain ⟨l⟩ := ys
  match l, h with
  | [y, y2, y3], h => exact ⟨y, y2, y3, rfl, by simpa using h.2 0, by simpa using h.2 1, by simpa using h.2 2⟩
  | [], h => simp [ARel] at h
  | [_], h => simp [ARel] at h
  | [_, _], h => simp [ARel] at h
  | _ :: _ :: _ :: _ :: _, h => simp [ARel] at h
theorem plain_pair {f : Emb} {L : Nat} (a b : Int) : VRel f L (.tuple #[.int .u64 a, .int .u64 b]) (.tuple #[.int .u64 a, .int .u64 b]) := by
  refine .tuple _ _ rfl fun i => ?_
  match i with
  | 0 => exact .int _ _
  | 1 => exact .int _ _
  | i + 2 => simp [Array.getD]; exact .junk _

theorem sound_range {P : Program} {f : Emb} {h : AH} {w : World} (hs : Sim P f h w) {t : TypeId} {x x' : Value} (hx : VRel f h.length x x') {r : Value} {h1 : AH} (ha : amRange P h t x = some (r, h1)) :
    ∃ f1 r' w1, (Instr.range t x').run P w = .ok r' w1 ∧ Step P f h w f1 h1 w1 ∧ VRel f1 h1.length r r' := by
  unfold amRange at ha
  split at ha
  · rename_i k e hu
    cases ha
    have : x' = .map none := plain_inv rfl hx
    subst this
    have st := Step.alloc hs (.miter none 0 #[] 0) (.mapIter none 0 #[] 0) ⟨w.heap.size, 0, 0, 0, 0⟩ rfl ⟨rfl, none, rfl, trivial⟩
    refine ⟨_, .pointer (some ⟨w.heap.size, 0, none⟩), _, ?_, st, .ptr _ _ _ _ (by simp) (by rw [upd_eq]) (by rw [upd_eq])⟩
    simp only [Instr.range, Sem.run_bind, run_underlying hu, Result.andThen_ok, Sem.run_pure, run_newObj]
    rfl
  · rename_i k e b hu
    obtain ⟨rfl, hbL⟩ := hx.map_inv
    split at ha
    case h_2 => cases ha
    rename_i k' es clock hb
    cases ha
    obtain ⟨es', g1, _⟩ := hs.mapRel hb
    have st := Step.alloc hs (.miter (some b) clock #[] clock) (.mapIter (some (f b).blk) clock #[] clock) ⟨w.heap.size, 0, 0, 0, 0⟩ rfl ⟨rfl, some (f b).blk, rfl, hbL, rfl⟩
    refine ⟨_, .pointer (some ⟨w.heap.size, 0, none⟩), _, ?_, st, .ptr _ _ _ _ (by simp) (by rw [upd_eq]) (by rw [upd_eq])⟩
    simp only [Instr.range, Sem.run_bind, run_underlying hu, Result.andThen_ok, Sem.run_pure, run_getObj_map g1, run_newObj]
    rfl
  · cases ha

theorem Sim.iterRel {P : Program} {f : Emb} {h : AH} {w : World} (hs : Sim P f h w) {r m : Nat} {since c0 : Nat} {seen : Array Nat} (hr : h[r]? = some (.miter (some m) since seen c0)) :
    w.heap[(f r).blk]? = some (.mapIter (some (f m).blk) since seen c0) ∧ m < h.length ∧ (f r).off = 0 := by
  obtain ⟨o', h1, h0, m', rfl, h2⟩ := hs.obj r _ hr rfl
  cases m' with
  | none => exact h2.elim
  | some q => obtain ⟨h2, rfl⟩ := h2; exact ⟨h1, h2, h0⟩

theorem left_rel {f : Emb} {L : Nat} {es es' : Array MapEntry} (hsz : es.size = es'.size) (hrel : ∀ (i : Nat) (e : MapEntry), es[i]? = some e → ∃ e' : MapEntry, es'[i]? = some e' ∧ EntryRel f L e e') (seen : Array Nat) {e' : MapEntry} (he : e' ∈ (leftOf es' seen).toList) :
    ∃ e ∈ (leftOf es seen).toList, EntryRel f L e e' := by
  simp only [leftOf, Array.mem_toList_iff, Array.mem_filter] at he ⊢
  obtain ⟨h1, h2⟩ := he
  obtain ⟨i, hi, rfl⟩ := Array.mem_iff_getElem.1 h1
  have hi2 : i < es.size := by omega
  obtain ⟨e'', k1, k2⟩ := hrel i es[i] (by simp [hi2])
  rw [Array.getElem?_eq_getElem hi] at k1
  cases k1
  exact ⟨es[i], ⟨by simp, by rw [← k2.2.1]; exact h2⟩, k2⟩

theorem left_empty {f : Emb} {L : Nat} {es es' : Array MapEntry} (hsz : es.size = es'.size) (hrel : ∀ (i : Nat) (e : MapEntry), es[i]? = some e → ∃ e' : MapEntry, es'[i]? = some e' ∧ EntryRel f L e e') (seen : Array Nat) (h0 : (leftOf es' seen).size = 0) : (leftOf es seen).size = 0 := by
  have h1 : leftOf es' seen = #[] := Array.eq_empty_of_size_eq_zero h0
  have : leftOf es seen = #[] := by
    unfold leftOf at h1 ⊢
    rw [Array.filter_eq_empty_iff] at h1 ⊢
    intro e he
    obtain ⟨i, hi, rfl⟩ := Array.mem_iff_getElem.1 he
    obtain ⟨e'', k1, k2⟩ := hrel i es[i] (by simp [hi])
    rw [← k2.2.1]
    exact h1 e'' (Array.mem_of_getElem? k1)
  rw [this]; rfl

theorem sound_next {P : Program} {f : Emb} {h : AH} {w : World} (hs : Sim P f h w) {it it' : Value} (hit : VRel f h.length it it') {ty : TypeId} {r : ARes} (ha : amNext h it = some r) :
    ResOk P f h w r ((do pure (.value (← Instr.next it' false ty)) : Sem Next).run P w) := by
  have over : ∀ L, VRel f L (.tuple #[.bool false]) (.tuple #[.bool false]) := fun L => .tuple _ _ rfl fun i => by
    match i with
    | 0 => exact .bool _
    | i + 1 => simp [Array.getD]; exact .junk _
  unfold amNext at ha
  split at ha
  case h_2 => cases ha
  rename_i r0
  obtain ⟨rfl, hrL⟩ := hit.ptr_inv
  split at ha
  · rename_i s1 s2 s3 hr
    cases ha
    obtain ⟨o', h1, h0, m', rfl, h2⟩ := hs.obj r0 _ hr rfl
    cases m' with
    | some q => exact h2.elim
    | none =>
      refine ⟨f, .tuple #[.bool false], w, ?_, Step.refl hs, over _⟩
      have hg : (getObj (f r0).blk).run P w = .ok (.mapIter none s1 s2 s3) w := by simp only [getObj, Sem.run, h1]
      simp only [h0, Nat.add_zero, Instr.next, Sem.run_bind, hg, Result.andThen_ok, Sem.run_pure]
  · rename_i m since seen c0 hr
    obtain ⟨g1, g2, g0⟩ := hs.iterRel hr
    split at ha
    case h_2 => cases ha
    rename_i k es clock hb
    split at ha
    case isFalse => cases ha
    rename_i hcond
    cases ha
    simp only [Bool.and_eq_true, decide_eq_true_eq] at hcond
    obtain ⟨hold, hsc⟩ := hcond
    obtain ⟨es', q1, q2, q3, q4, q5, q6⟩ := hs.mapRel hb
    have hold' : ∀ x ∈ es'.toList, x.born < since := by
      intro x hx
      have : x.born ∈ es.toList.map (·.born) := by rw [q6]; exact List.mem_map_of_mem hx
      obtain ⟨y, hy, hy2⟩ := List.mem_map.1 this
      rw [Array.all_eq_true'] at hold
      have := hold y (by simpa using hy)
      rw [← hy2]; simpa using this
    rcases run_next_at (P := P) w ty (f r0).blk (f m).blk since c0 seen es' clock g1 q1 hold' hsc with ⟨h1, h2⟩ | ⟨e', he', w1, hw1, h2⟩
    · refine ⟨f, .tuple #[.bool false], .tuple #[.bool false], h, w, ?_, .inl ⟨left_empty q2 q3 seen h1, rfl, rfl⟩, Step.refl hs, over _⟩
      rw [g0, Nat.add_zero, Sem.run_bind, h2]; rfl
    · obtain ⟨e, he, hre⟩ := left_rel q2 q3 seen he'
      have hlt : (f r0).blk < w1.heap.size := by rcases hw1 with rfl | rfl <;> exact (Array.getElem?_eq_some_iff.1 g1).1
      have hs1 : Sim P f h w1 := by rcases hw1 with rfl | rfl; exact hs; exact hs.congr rfl
      have hst0 : Step P f h w f h w1 := by rcases hw1 with rfl | rfl; exact Step.refl hs; exact Step.drew hs
      have g1' : w1.heap[(f r0).blk]? = some (.mapIter (some (f m).blk) since seen c0) := by rcases hw1 with rfl | rfl <;> exact g1
      have st := Step.write (o1 := .miter (some m) since (seen.push e'.born) clock) (o1' := .mapIter (some (f m).blk) since (seen.push e'.born) clock) (w1 := ChangeMaps.setBlock w1 (f r0).blk (.mapIter (some (f m).blk) since (seen.push e'.born) clock)) hs1 hr rfl rfl trivial
        (by simp [ChangeMaps.setBlock, hlt]) ⟨g0, some (f m).blk, rfl, g2, rfl⟩ (fun r hr => by simp only [ChangeMaps.setBlock, Array.getElem?_setIfInBounds_ne hr.symm]) rfl rfl rfl (by simp [ChangeMaps.setBlock])
      refine ⟨f, .tuple #[.bool true, e.key, e.val], .tuple #[.bool true, e'.key, e'.val], _, _, by rw [g0, Nat.add_zero, Sem.run_bind, h2]; rfl, .inr ⟨e, he, rfl, rfl⟩, ?_, ?_⟩
      · rw [← hre.2.1]; exact hst0.trans st
      · have hk : keyed P k e.key = true := q4.keys e (by simp only [leftOf, Array.mem_toList_iff, Array.mem_filter] at he; simpa using he.1)
        refine .tuple _ _ rfl fun i => ?_
        match i with
        | 0 => exact .bool _
        | 1 => show VRel f _ e.key e'.key; rw [hre.1]; exact plain_refl (keyed_plain hk)
        | 2 => show VRel f _ e.val e'.val; exact hre.2.2.mono (by simp) (.refl _ _)
        | i + 3 => simp [Array.getD]; exact .junk _
  · cases ha

theorem sound_entryOf {P : Program} {f : Emb} {h : AH} {w : World} (hs : Sim P f h w) {it it' : Value} (hit : VRel f h.length it it') {r : Value} (ha : amEntryOf h it = some r) :
    ∃ r', (Instr.entry it').run P w = .ok r' w ∧ VRel f h.length r r' := by
  unfold amEntryOf at ha
  split at ha
  case h_2 => cases ha
  rename_i r0
  obtain ⟨rfl, hrL⟩ := hit.ptr_inv
  split at ha
  case h_2 => cases ha
  rename_i m s1 seen stepped hr
  obtain ⟨g1, g2, g0⟩ := hs.iterRel hr
  split at ha
  case h_2 => cases ha
  rename_i k es clock b hb hback
  split at ha
  case isFalse => cases ha
  rename_i hc
  subst hc
  simp only [Option.map_eq_some_iff] at ha
  obtain ⟨e, he, rfl⟩ := ha
  obtain ⟨es', q1, q2, q3, q4, q5, q6⟩ := hs.mapRel hb
  have hmem : e ∈ es := Array.mem_of_find?_eq_some he
  have hbe : e.born = b := by have := Array.find?_some he; simpa using this
  obtain ⟨i, hi, hie⟩ := Array.mem_iff_getElem.1 hmem
  obtain ⟨e', k1, k2⟩ := q3 i e (by rw [Array.getElem?_eq_getElem hi, hie])
  have hseen : seen = seen.pop.push e'.born := by
    have h1 : seen.size ≠ 0 := by
      intro h0
      have : seen = #[] := Array.eq_empty_of_size_eq_zero h0
      rw [this] at hback; simp at hback
    have h2 := Array.back?_eq_getElem? (xs := seen)
    rw [hback] at h2
    have h3 : seen.size - 1 < seen.size := by omega
    rw [Array.getElem?_eq_getElem h3] at h2
    rw [k2.2.1, hbe]
    apply Array.ext
    · simp; omega
    · intro j j1 j2
      rw [Array.getElem_push]
      split
      · simp
      · have : j = seen.size - 1 := by simp at *; omega
        subst this
        exact (Option.some.inj h2).symm
  have hn : (es'.toList.map (·.born)).Nodup := by rw [← q6]; exact q4.born
  have hk : keyed P k e.key = true := q4.keys e (by simpa using hmem)
  refine ⟨.tuple #[e'.key, e'.val], ?_, .tuple _ _ rfl fun i => ?_⟩
  · rw [g0, Nat.add_zero]
    rw [hseen] at g1
    exact run_entry_at w (f r0).blk (f m).blk s1 seen.pop es' clock e' g1 q1 (by have := Array.mem_of_getElem? k1; simpa using this) hn
  · match i with
    | 0 => show VRel f _ e.key e'.key; rw [k2.1]; exact plain_refl (keyed_plain hk)
    | 1 => exact k2.2.2
    | i + 2 => simp [Array.getD]; exact .junk _

theorem arel_plain {f : Emb} {L : Nat} {xs ys : Array Value} (h : ARel f L xs ys) (hp : xs.all plainB = true) : ys = xs := by
  apply Array.ext h.1.symm
  intro i h1 h2
  have hr := h.2 i
  rw [Array.all_eq_true] at hp
  have := plain_inv (f := f) (L := L) (v := xs.getD i Am.junk) (v' := ys.getD i Am.junk) (by simpa [Array.getD, h2] using hp i h2) hr
  simpa [Array.getD, h1, h2] using this

theorem usd_some {ts : Array TypeId} {ty : TypeId} {a : Addr} {l c : Nat} : Builtin.unsafeSliceData_ ts ty #[.slice (some a) l c] = (
    if c ≠ 0 then pure (.pointer (some a)) else do
      if (← viewAt a.block).isSome then pure (.pointer (some a))
      else pure (.pointer (some ⟨← newObj (.view a (← elemOf ty)), 0, none⟩))) := rfl
theorem usd_none {ts : Array TypeId} {ty : TypeId} {l c : Nat} : Builtin.unsafeSliceData_ ts ty #[.slice none l c] = pure (.pointer none) := rfl
theorem us_some {t u ty : TypeId} {a : Addr} {k : IntKind} {m : Int} : Builtin.unsafeString_ #[t, u] ty #[.pointer (some a), .int k m] = (do
    let n ← asInt (.int k m)
    if n < 0 then runtimePanic (.error "unsafe.String: len out of range")
    if n > IntKind.i64.max then unsupported (.unsafePointer "String: a length above the largest int")
    if n = 0 then pure (.string .empty)
    else if ← variablesAt a (← elemOf t) n.toNat then do
      let s ← loadBytes a .empty n.toNat
      freeze a n.toNat
      pure (.string s)
    else unsupported (.unsafePointer "String: not so many bytes at ptr")) := rfl
theorem us_none {t u ty : TypeId} {k : IntKind} {m : Int} : Builtin.unsafeString_ #[t, u] ty #[.pointer none, .int k m] = (do
    let n ← asInt (.int k m)
    if n < 0 then runtimePanic (.error "unsafe.String: len out of range")
    if n > IntKind.i64.max then unsupported (.unsafePointer "String: a length above the largest int")
    if n = 0 then pure (.string .empty)
    else runtimePanic (.error "unsafe.String: ptr is nil and len is not zero")) := rfl
theorem sound_string {P : Program} {f : Emb} {h : AH} {w : World} (hs : Sim P f h w) {t u ty : TypeId} {p p' n n' : Value} (hp : VRel f h.length p p') (hn : VRel f h.length n n') {r : Value} {h1 : AH} (ha : astring P h t p n = some (r, h1)) :
    ∃ f1 r' w1, (Builtin.unsafeString_ #[t, u] ty #[p', n']).run P w = .ok r' w1 ∧ Step P f h w f1 h1 w1 ∧ VRel f1 h1.length r r' := by
  unfold astring at ha
  split at ha
  · rename_i e k hu
    cases hn.int_inv
    have hp' : p' = .pointer none := plain_inv rfl hp
    subst hp'
    cases ha
    refine ⟨f, .string .empty, w, ?_, Step.refl hs, .string _⟩
    have hmx : ¬ ((0 : Int) > IntKind.i64.max) := by decide
    rw [us_none]
    simp [asInt, asIntOf, hmx]
  · rename_i e b o k m hu
    cases hn.int_inv
    obtain ⟨rfl, hbL⟩ := hp.ptr_inv
    split at ha
    case h_2 => cases ha
    rename_i c es hb
    split at ha
    case isFalse => cases ha
    rename_i hc
    obtain ⟨hm, hmx, rfl, he1, hle⟩ := hc
    simp only [Option.map_eq_some_iff, Prod.mk.injEq] at ha
    obtain ⟨l, hl, rfl, rfl⟩ := ha
    obtain ⟨o', ho', hrel⟩ := hs.obj b _ hb rfl
    obtain ⟨cc, elem, fr, rfl, q2, q3, q4, q5, q6, q7⟩ := hrel
    obtain ⟨t1, t2, t3⟩ := (q5 rfl).2.tag (Nat.le_add_right _ _)
    have hel : elem = e := (Nat.add_left_cancel t1).symm
    subst hel
    have hva : (variablesAt ⟨(f b).blk, (f b).off + o, none⟩ elem m.toNat).run P w = .ok true w := by
      have hli : liesAt P P.depth elem (cc.size / P.cellsOf elem) ((f b).off + o) elem m.toNat = true := by
        rw [he1, Nat.div_one]
        exact liesAt_row he1 (by omega)
      have e1 : w.shape? (f b).blk = some (elem, cc.size) := by simp [World.shape?, ho']
      simp only [variablesAt, shape, program, Sem.run_bind, Sem.run, Result.andThen_ok, e1, hli, Sem.run_pure]
    have hnz : ¬ m = 0 := by omega
    have hn0 : ¬ m < 0 := by omega
    have hmx' : ¬ m > IntKind.i64.max := by omega
    have hpt : (elemOf t).run P w = .ok elem w := by
      simp only [elemOf, Sem.run_bind, run_underlying hu, Result.andThen_ok, Sem.run_pure]
    have hcell : ∀ j, j < m.toNat → ∃ q, l[j]? = some (UInt8.ofNat q.toNat) ∧ w.cell? ⟨(f b).blk, (f b).off + o + j, none⟩ = some (.int .u8 q) := by
      intro j hj
      have h3 := (q7 (o + j) (by omega)).1
      have hin : o + j < c.size := by omega
      have hc3 : (c.extract o (o + m.toNat)).toList[j]? = some (c.getD (o + j) junk) := by
        rw [Array.getElem?_toList, Array.getElem?_extract]
        simp [hin, Array.getD]
        omega
      obtain ⟨q, hq1, hq2⟩ := bytesIn_get hl hc3
      rw [hq1] at h3
      have h4 := h3.int_inv
      refine ⟨q, hq2, ?_⟩
      have hin' : (f b).off + (o + j) < cc.size := by omega
      rw [← Nat.add_assoc] at h4 hin'
      unfold World.cell?
      rw [ho']
      simp only [Option.isSome_none, Bool.false_eq_true, if_false]
      rw [Array.getElem?_eq_getElem hin']
      simpa [Array.getD, hin'] using h4
    have hll : l.length = m.toNat := by
      rw [bytesIn_length _ hl]; simp; omega
    have hload : ∀ (k j : Nat) (acc : ByteArray), j + k = m.toNat → (loadBytes ⟨(f b).blk, (f b).off + o + j, none⟩ acc k).run P w = .ok ⟨acc.data ++ (l.drop j).toArray⟩ w := by
      intro k
      induction k with
      | zero =>
        intro j acc hjk
        have : l.drop j = [] := List.drop_eq_nil_of_le (by omega)
        simp [loadBytes, this]
      | succ k ih =>
        intro j acc hjk
        obtain ⟨q, hq1, hq2⟩ := hcell j (by omega)
        have hld : (load ⟨(f b).blk, (f b).off + o + j, none⟩).run P w = .ok (.int .u8 q) w := by
          simp only [load, Sem.run, hq2]
        have hadd : (⟨(f b).blk, (f b).off + o + j, none⟩ : Addr).add 1 = ⟨(f b).blk, (f b).off + o + (j + 1), none⟩ := by
          unfold Addr.add; simp; omega
        simp only [loadBytes, Sem.run_bind, hld, Result.andThen_ok, hadd]
        rw [ih (j + 1) _ (by omega)]
        have hj : j < l.length := by omega
        have hd : l.drop j = UInt8.ofNat q.toNat :: l.drop (j + 1) := by
          rw [List.drop_eq_getElem_cons hj]
          congr 1
          rw [List.getElem?_eq_getElem hj] at hq1
          exact Option.some.inj hq1
        rw [hd]
        congr 2
        simp [ByteArray.push]
    have hrd := hload m.toNat 0 .empty (by omega)
    obtain ⟨fr2, hw1⟩ : ∃ fr2, (w.freeze ⟨(f b).blk, (f b).off + o, none⟩ m.toNat).heap[(f b).blk]? = some (.cells cc elem fr2) := by
      obtain ⟨lo, hi⟩ := fr
      have hmn : ¬ m.toNat = 0 := by omega
      refine ⟨if lo == hi then ((f b).off + o, (f b).off + o + m.toNat) else (min lo ((f b).off + o), max hi ((f b).off + o + m.toNat)), ?_⟩
      simp only [World.freeze, hmn, if_false]
      rw [Array.getElem?_modify, if_pos rfl, ho']; rfl
    have st := Step.write (o1 := .dead) (o1' := .cells cc elem fr2) (w1 := w.freeze ⟨(f b).blk, (f b).off + o, none⟩ m.toNat) hs hb rfl rfl trivial hw1 trivial (fun r hr => by
        have hmn : ¬ m.toNat = 0 := by omega
        simp only [World.freeze, hmn, if_false]
        rw [Array.getElem?_modify, if_neg (fun e => hr e.symm)]) (by simp only [World.freeze]; split <;> rfl) (by simp only [World.freeze]; split <;> rfl) (by simp only [World.freeze]; split <;> rfl) (by simp only [World.freeze]; split <;> simp) (by simp only [World.freeze]; split <;> rfl)
    refine ⟨f, .string ⟨l.toArray⟩, _, ?_, st, .string _⟩
    rw [us_some]
    have hfz : (freeze ⟨(f b).blk, (f b).off + o, none⟩ m.toNat).run P w = .ok () (w.freeze ⟨(f b).blk, (f b).off + o, none⟩ m.toNat) := rfl
    simp only [Nat.add_zero] at hrd
    simp only [Sem.run_bind, asInt, asIntOf, Sem.run_pure, Result.andThen_ok, hn0, hmx', if_false, hnz, hpt, hva, if_true, hrd, hfz]
    simp
  · cases ha

theorem sound_builtin {P : Program} {f : Emb} {h : AH} {w : World} (hs : Sim P f h w) (b : Builtin) (ts : Array TypeId) (ty : TypeId) (cs : Array Bool) {args args' : Array Value} (hr : ARel f h.length args args') {r : ARes}
    (ha : abuiltin P h b ts ty args = some r) : ResOk P f h w r ((builtin b ts ty cs args').run P w) := by
  unfold abuiltin at ha
  split at ha
  · rename_i t x ht hx
    obtain ⟨v, h1, rfl⟩ := aval_some ha
    cases arr1 hx; cases arr1 ht
    obtain ⟨y, rfl, hy⟩ := arel_one hr
    obtain ⟨r', g1, g2⟩ := sound_len hs (ts := #[t]) (ty := ty) rfl hy h1
    exact ⟨f, r', w, by simp only [builtin, Sem.run_bind, g1, Result.andThen_ok, Sem.run_pure], Step.refl hs, g2⟩
  · rename_i t u s x ht hx
    obtain ⟨v, h2, h1, rfl⟩ := avalh_some ha
    cases arr2 hx; cases arr2 ht
    obtain ⟨y, y2, rfl, hy, hy2⟩ := arel_two hr
    obtain ⟨f1, r', w1, g1, g2, g3⟩ := sound_append hs (ts := #[t, u]) (ty := ty) rfl rfl hy hy2 h1
    exact ⟨f1, r', w1, by simp only [builtin, Sem.run_bind, g1, Result.andThen_ok, Sem.run_pure], g2, g3⟩
  · rename_i t u d s ht hx
    obtain ⟨v, h2, h1, rfl⟩ := avalh_some ha
    cases arr2 hx; cases arr2 ht
    obtain ⟨y, y2, rfl, hy, hy2⟩ := arel_two hr
    obtain ⟨r', w1, g1, g2, g3⟩ := sound_copy hs (ts := #[t, u]) (ty := ty) rfl hy hy2 h1
    exact ⟨f, r', w1, by simp only [builtin, Sem.run_bind, g1, Result.andThen_ok, Sem.run_pure], g2, g3⟩
  · rename_i t u d s ht hx
    obtain ⟨v, h2, h1, rfl⟩ := avalh_some ha
    cases arr2 hx; cases arr2 ht
    obtain ⟨y, y2, rfl, hy, hy2⟩ := arel_two hr
    obtain ⟨r', w1, g1, g2, g3⟩ := sound_delete hs (ts := #[t, u]) (ty := ty) rfl hy hy2 h1
    exact ⟨f, r', w1, by simp only [builtin, Sem.run_bind, g1, Result.andThen_ok, Sem.run_pure], g2, g3⟩
  · rename_i t s0 ht hx
    obtain ⟨v, h1, rfl⟩ := aval_some ha
    cases arr1 hx
    obtain ⟨y, rfl, hy⟩ := arel_one hr
    unfold asliceData at h1
    split at h1
    · rename_i b o l c
      split at h1
      case isFalse => cases h1
      rename_i hc0
      cases h1
      rcases hy.slice_inv with ⟨c', rfl, hbL, hcap⟩ | ⟨_, h0, _, _, _⟩
      · have hc' : c' ≠ 0 := by have := hcap.le; omega
        refine ⟨f, .pointer (some ⟨(f b).blk, (f b).off + o, none⟩), w, ?_, Step.refl hs, .ptr b o _ _ hbL rfl rfl⟩
        simp only [builtin, usd_some, Sem.run_bind, hc', ne_eq, not_false_eq_true, if_true, Sem.run_pure, Result.andThen_ok]
      · exact absurd h0 hc0
    · obtain ⟨rfl, _, _⟩ := hy.bnil_inv
      cases h1
      exact ⟨f, .pointer none, w, by simp only [builtin, usd_none, Sem.run_bind, Sem.run_pure, Result.andThen_ok], Step.refl hs, .nilPtr⟩
    · cases h1
  · rename_i t u p n ht hx
    obtain ⟨v, h2, h1, rfl⟩ := avalh_some ha
    cases arr2 hx; cases arr2 ht
    obtain ⟨y, y2, rfl, hy, hy2⟩ := arel_two hr
    obtain ⟨f1, r', w1, g1, g2, g3⟩ := sound_string hs (u := u) (ty := ty) hy hy2 h1
    exact ⟨f1, r', w1, by simp only [builtin, Sem.run_bind, g1, Result.andThen_ok, Sem.run_pure], g2, g3⟩
  · split at ha
    · rename_i hp
      obtain ⟨v, h1, rfl⟩ := aval_some ha
      obtain ⟨h2, h3⟩ := plainOut_some h1
      cases arel_plain hr hp
      exact ⟨f, v, w, by simp only [builtin, Sem.run_bind, pureRun_run h2 w, Result.andThen_ok, Sem.run_pure], Step.refl hs, plain_refl h3⟩
    · cases ha
  · split at ha
    · rename_i hp
      obtain ⟨v, h1, rfl⟩ := aval_some ha
      obtain ⟨h2, h3⟩ := plainOut_some h1
      cases arel_plain hr hp
      exact ⟨f, v, w, by simp only [builtin, Sem.run_bind, pureRun_run h2 w, Result.andThen_ok, Sem.run_pure], Step.refl hs, plain_refl h3⟩
    · cases ha
  · cases ha

theorem sound_aop {P : Program} {f : Emb} {h : AH} {w : World} (hs : Sim P f h w) {ρ ρ' : Operand → Value} (hr : ∀ x, VRel f h.length (ρ x) (ρ' x)) (o : Oper) {r : ARes} (ha : aop P ρ h o = some r) :
    ResOk P f h w r ((execOp ρ' o).run P w) := by
  obtain ⟨dst, op, type, pos, after, guard⟩ := o
  unfold aop at ha
  cases op <;> simp only at ha <;> (try (simp only [amore] at ha; cases ha; done)) <;> simp only [execOp]
  case move x => cases ha; exact ⟨f, _, w, rfl, Step.refl hs, hr x⟩
  case assign x => cases ha; exact ⟨f, _, w, rfl, Step.refl hs, hr x⟩
  case pick c a b =>
    split at ha
    · rename_i t ht
      cases ha
      have hc := hr c
      rw [ht] at hc
      refine ⟨f, (if t = true then ρ' a else ρ' b), w, by simp only [Sem.run_bind, hc.bool_inv, asBool, Sem.run_pure, Result.andThen_ok], Step.refl hs, ?_⟩
      cases t
      · exact hr b
      · exact hr a
    · cases ha
  case alloc e =>
    obtain ⟨v, h2, h1, rfl⟩ := avalh_some ha
    obtain ⟨f1, r', w1, g1, g2, g3⟩ := sound_alloc hs e h1
    exact ⟨f1, r', w1, by simp only [Sem.run_bind, g1, Result.andThen_ok, Sem.run_pure], g2, g3⟩
  case box e x =>
    obtain ⟨v, h2, h1, rfl⟩ := avalh_some ha
    obtain ⟨f1, r', w1, g1, g2, g3⟩ := sound_box hs e (hr x) h1
    exact ⟨f1, r', w1, by simp only [Sem.run_bind, g1, Result.andThen_ok, Sem.run_pure], g2, g3⟩
  case build t ps =>
    obtain ⟨v, h1, rfl⟩ := aval_some ha
    obtain ⟨r', g1, g2⟩ := sound_build (P := P) w t (parts := ps.map fun (i, x) => (i, ρ x)) (parts' := ps.map fun (i, x) => (i, ρ' x)) (by simpa using prel_map hr ps.toList) (by simpa using h1)
    exact ⟨f, r', w, by simp only [Sem.run_bind, g1, Result.andThen_ok, Sem.run_pure], Step.refl hs, g2⟩
  case buildSlice t n ps =>
    obtain ⟨v, h2, h1, rfl⟩ := avalh_some ha
    obtain ⟨f1, r', w1, g1, g2, g3⟩ := sound_buildSlice hs t n (parts := ps.map fun (i, x) => (i, ρ x)) (parts' := ps.map fun (i, x) => (i, ρ' x)) (by simpa using prel_map hr ps.toList) (by simpa using h1)
    exact ⟨f1, r', w1, by simp only [Sem.run_bind, g1, Result.andThen_ok, Sem.run_pure], g2, g3⟩
  case load t a =>
    obtain ⟨v, h1, rfl⟩ := aval_some ha
    obtain ⟨r', g1, g2⟩ := sound_load hs (hr a) h1
    exact ⟨f, r', w, by simp only [Sem.run_bind, g1, Result.andThen_ok, Sem.run_pure], Step.refl hs, g2⟩
  case store t a x =>
    obtain ⟨h2, h1, rfl⟩ := askip_some ha
    obtain ⟨w1, g1, g2⟩ := sound_store hs (hr a) (hr x) h1
    exact ⟨f, w1, by simp only [Sem.run_bind, g1, Result.andThen_ok, Sem.run_pure], g2⟩
  case nilCheck x =>
    obtain ⟨v, h1, rfl⟩ := aval_some ha
    obtain ⟨r', g1, g2⟩ := sound_nilCheck (P := P) w ρ' ⟨dst, .nilCheck x, type, pos, after, guard⟩ x rfl (hr x) h1
    exact ⟨f, r', w, by simpa only [execOp] using g1, Step.refl hs, g2⟩
  case binOp op t x y u =>
    obtain ⟨v, h1, rfl⟩ := aval_some ha
    obtain ⟨r', g1, g2⟩ := sound_binOp (P := P) w op t x y (hr x) (hr y) h1
    exact ⟨f, r', w, by rw [Sem.run_bind, g1]; rfl, Step.refl hs, g2⟩
  case unOp op t x =>
    obtain ⟨v, h1, rfl⟩ := aval_some ha
    obtain ⟨r', g1, g2⟩ := sound_unOp (P := P) w op (hr x) h1
    exact ⟨f, r', w, by simp only [Sem.run_bind, g1, Result.andThen_ok, Sem.run_pure], Step.refl hs, g2⟩
  case convert s d x =>
    obtain ⟨v, h2, h1, rfl⟩ := avalh_some ha
    obtain ⟨f1, r', w1, g1, g2, g3⟩ := sound_convert hs (hr x) h1
    exact ⟨f1, r', w1, by simp only [Sem.run_bind, g1, Result.andThen_ok, Sem.run_pure], g2, g3⟩
  case sliceToArrayPointer t x =>
    obtain ⟨v, h1, rfl⟩ := aval_some ha
    obtain ⟨r', g1, g2⟩ := sound_arrayPtr (P := P) w (hr x) h1
    exact ⟨f, r', w, by simp only [Sem.run_bind, g1, Result.andThen_ok, Sem.run_pure], Step.refl hs, g2⟩
  case makeInterface t x =>
    obtain ⟨v, h1, rfl⟩ := aval_some ha
    obtain ⟨r', g1, g2⟩ := sound_makeIface (P := P) w (hr x) h1
    exact ⟨f, r', w, by simp only [Sem.run_bind, g1, Result.andThen_ok, Sem.run_pure], Step.refl hs, g2⟩
  case makeFunc fn xs cs =>
    obtain ⟨v, h1, rfl⟩ := aval_some ha
    obtain ⟨r', g1, g2⟩ := sound_makeFunc (P := P) w (arel_map hr xs) (arel_map hr cs) h1
    exact ⟨f, r', w, by simp only [Sem.run_bind, g1, Result.andThen_ok, Sem.run_pure], Step.refl hs, g2⟩
  case makeMap t r0 =>
    cases r0 with
    | some x => simp only [amore] at ha; cases ha
    | none =>
      obtain ⟨v, h2, h1, rfl⟩ := avalh_some ha
      unfold amMake at h1
      split at h1
      case h_2 => cases h1
      rename_i k el hu
      split at h1
      case isFalse => cases h1
      rename_i hty
      cases h1
      have := Step.alloc hs (.map k #[] 0) (.map #[] 0) ⟨w.heap.size, 0, 0, 0, 0⟩ rfl ⟨#[], rfl, rfl, fun i e he => by simp at he⟩ ⟨hty, by simp, by simp, by simp, by simp⟩
      exact ⟨_, .map (some w.heap.size), _, by simp only [Option.map_none, Instr.makeMap, Sem.run_bind, Sem.run_pure, Result.andThen_ok, run_newObj]; rfl, this, .map _ _ (by simp) (by rw [upd_eq])⟩
  case makeSlice t l c =>
    obtain ⟨v, h2, h1, rfl⟩ := avalh_some ha
    obtain ⟨f1, r', w1, g1, g2, g3⟩ := sound_makeSlice hs t (hr l) (hr c) h1
    exact ⟨f1, r', w1, by simp only [Sem.run_bind, g1, Result.andThen_ok, Sem.run_pure], g2, g3⟩
  case slice t x lo hi mx =>
    cases mx with
    | some x => simp only [amore] at ha; cases ha
    | none =>
      obtain ⟨v, h1, rfl⟩ := aval_some ha
      obtain ⟨r', g1, g2⟩ := sound_slice hs (hr x) (optrel_map hr lo) (optrel_map hr hi) h1
      exact ⟨f, r', w, by simp only [Option.map_none, Sem.run_bind, g1, Result.andThen_ok, Sem.run_pure], Step.refl hs, g2⟩
  case fieldAddr t x k =>
    obtain ⟨v, h1, rfl⟩ := aval_some ha
    obtain ⟨r', g1, g2⟩ := sound_fieldAddr (P := P) w (hr x) h1
    exact ⟨f, r', w, by simp only [Sem.run_bind, g1, Result.andThen_ok, Sem.run_pure], Step.refl hs, g2⟩
  case field t x k =>
    obtain ⟨v, h1, rfl⟩ := aval_some ha
    obtain ⟨r', g1, g2⟩ := sound_field (P := P) w (hr x) h1
    exact ⟨f, r', w, by simp only [Sem.run_bind, g1, Result.andThen_ok, Sem.run_pure], Step.refl hs, g2⟩
  case indexAddr t x i =>
    obtain ⟨v, h1, rfl⟩ := aval_some ha
    obtain ⟨r', g1, g2⟩ := sound_indexAddr (P := P) w (hr x) (hr i) h1
    exact ⟨f, r', w, by simp only [Sem.run_bind, g1, Result.andThen_ok, Sem.run_pure], Step.refl hs, g2⟩
  case index t x i =>
    obtain ⟨v, h1, rfl⟩ := aval_some ha
    obtain ⟨r', g1, g2⟩ := sound_index (P := P) w (hr x) (hr i) h1
    exact ⟨f, r', w, by simp only [Sem.run_bind, g1, Result.andThen_ok, Sem.run_pure], Step.refl hs, g2⟩
  case extract x k =>
    obtain ⟨v, h1, rfl⟩ := aval_some ha
    obtain ⟨r', g1, g2⟩ := sound_extract (P := P) w (hr x) h1
    exact ⟨f, r', w, by simp only [Sem.run_bind, g1, Result.andThen_ok, Sem.run_pure], Step.refl hs, g2⟩
  case lookup t x i ok =>
    obtain ⟨v, h1, rfl⟩ := aval_some ha
    obtain ⟨r', g1, g2⟩ := sound_lookup hs (hr x) (hr i) h1
    exact ⟨f, r', w, by simp only [Sem.run_bind, g1, Result.andThen_ok, Sem.run_pure], Step.refl hs, g2⟩
  case mapUpdate t m k x =>
    obtain ⟨h2, h1, rfl⟩ := askip_some ha
    obtain ⟨w1, g1, g2⟩ := sound_update hs (hr m) (hr k) (hr x) h1
    exact ⟨f, w1, by simp only [Sem.run_bind, g1, Result.andThen_ok, Sem.run_pure], g2⟩
  case insert t m k x =>
    obtain ⟨h2, h1, rfl⟩ := askip_some ha
    obtain ⟨w1, g1, g2⟩ := sound_update hs (hr m) (hr k) (hr x) h1
    exact ⟨f, w1, by simp only [Sem.run_bind, g1, Result.andThen_ok, Sem.run_pure], g2⟩
  case mapEntry t m k =>
    obtain ⟨v, h2, h1, rfl⟩ := avalh_some ha
    obtain ⟨r', w1, g1, g2, g3⟩ := sound_entryAt hs (hr m) (hr k) h1
    exact ⟨f, r', w1, by simp only [Sem.run_bind, g1, Result.andThen_ok, Sem.run_pure], g2, g3⟩
  case entryStore t m s x =>
    obtain ⟨h2, h1, rfl⟩ := askip_some ha
    obtain ⟨w1, g1, g2⟩ := sound_entryStore (t := t) hs (hr m) (hr s) (hr x) h1
    exact ⟨f, w1, by simp only [Sem.run_bind, g1, Result.andThen_ok, Sem.run_pure], g2⟩
  case range t x =>
    obtain ⟨v, h2, h1, rfl⟩ := avalh_some ha
    obtain ⟨f1, r', w1, g1, g2, g3⟩ := sound_range hs (hr x) h1
    exact ⟨f1, r', w1, by simp only [Sem.run_bind, g1, Result.andThen_ok, Sem.run_pure], g2, g3⟩
  case next it str =>
    cases str with
    | true => simp only [amore] at ha; cases ha
    | false => exact sound_next hs (hr it) ha
  case entry it =>
    obtain ⟨v, h1, rfl⟩ := aval_some ha
    obtain ⟨r', g1, g2⟩ := sound_entryOf hs (hr it) h1
    exact ⟨f, r', w, by simp only [Sem.run_bind, g1, Result.andThen_ok, Sem.run_pure], Step.refl hs, g2⟩
  case call c =>
    split at ha
    · rename_i fo hfo
      unfold acall at ha
      split at ha
      · rename_i F first captured hfv
        split at ha
        · rename_i hb
          cases ha
          have hv := hr fo
          rw [hfv] at hv
          generalize hv' : ρ' fo = v' at hv
          cases hv with
          | func fn xs ys cs ds hfn h1 h2 h3 h4 =>
            refine ⟨_, ?_, arel_append (arel_append ⟨h1, h2⟩ (arel_map hr c.args)) ⟨h3, h4⟩⟩
            simp only [resolve, hfo, hv', Deferred.ofValue, Sem.run_bind, Sem.run_pure, Result.andThen_ok, invoke, run_callFunc hb]
        · unfold aextern at ha
          split at ha
          · rename_i x hxs
            split at ha
            case isFalse => cases ha
            rename_i hn
            cases ha
            have hv := hr fo
            rw [hfv] at hv
            generalize hv' : ρ' fo = v' at hv
            cases hv with
            | func fn xs ys cs ds hfn g1 g2 g3 g4 =>
              have hargs := arel_append (arel_append ⟨g1, g2⟩ (arel_map hr c.args)) ⟨g3, g4⟩
              rw [arr1 hxs] at hargs
              obtain ⟨x', e, hx⟩ := arel_one hargs
              refine ⟨f, x', w, ?_, Step.refl hs, hx⟩
              simp only [resolve, hfo, hv', Deferred.ofValue, Sem.run_bind, Sem.run_pure, Result.andThen_ok, invoke]
              rw [e, isName_run (nm := "internal/abi.NoEscape") hn (by kernel_rfl) (by kernel_rfl) (by kernel_rfl) (by kernel_rfl) (by kernel_rfl) (g := Extern.AbiNoEscape.same) (by kernel_rfl) (by decide)]
              rfl
          · rename_i x y hxy
            split at ha
            · rename_i hc
              obtain ⟨v, h1, rfl⟩ := aval_some ha
              have hv := hr fo
              rw [hfv] at hv
              generalize hv' : ρ' fo = v' at hv
              cases hv with
              | func fn xs ys cs ds hfn g1 g2 g3 g4 =>
                have hargs := arel_append (arel_append ⟨g1, g2⟩ (arel_map hr c.args)) ⟨g3, g4⟩
                rw [arr2 hxy] at hargs
                obtain ⟨x', y', e, hx, hy⟩ := arel_two hargs
                unfold acompare at h1
                split at h1
                · rename_i hsl
                  split at h1
                  · rename_i n cc m dd hc1 hc2
                    split at h1
                    · rename_i hby
                      cases h1
                      refine ⟨f, .int .i64 (cmpV cc dd), w, ?_, Step.refl hs, .int _ _⟩
                      have b1 := sound_bytes hs hx hsl.1 hc1 hby.1
                      have b2 := sound_bytes hs hy hsl.2 hc2 hby.2
                      simp only [resolve, hfo, hv', Deferred.ofValue, Sem.run_bind, Sem.run_pure, Result.andThen_ok, invoke]
                      rw [e, isCompare_run hc]
                      rw [compare_two]
                      simp only [Sem.run_bind, b1, b2, Result.andThen_ok, Sem.run_pure]
                      rfl
                    · cases h1
                  · cases h1
                · cases h1
            · cases ha
          · rename_i x y c0 hxy
            have hv := hr fo
            rw [hfv] at hv
            generalize hv' : ρ' fo = v' at hv
            cases hv with
            | func fn xs ys cs ds hfn g1 g2 g3 g4 =>
              have hargs := arel_append (arel_append ⟨g1, g2⟩ (arel_map hr c.args)) ⟨g3, g4⟩
              rw [arr3 hxy] at hargs
              obtain ⟨x', y', c', e, hx, hy, hc⟩ := arel_three hargs
              have fin : ∀ add : Bool, isName P F (if add then "math/bits.Add64" else "math/bits.Sub64") = true → aval h (acarry add x y c0) = some r → ResOk P f h w r ((do let d ← resolve ρ' c type; invoke d.target d.args : Sem Next).run P w) := by
                intro add hn ha
                obtain ⟨v, h1, rfl⟩ := aval_some ha
                have hpl : x' = x ∧ y' = y ∧ c' = c0 := by
                  unfold acarry at h1
                  split at h1
                  · exact ⟨hx.int_inv, hy.int_inv, hc.int_inv⟩
                  · cases h1
                obtain ⟨rfl, rfl, rfl⟩ := hpl
                obtain ⟨k1, a, b, rfl⟩ := carry_run hn h1 w
                refine ⟨f, _, w, ?_, Step.refl hs, plain_pair a b⟩
                simp only [resolve, hfo, hv', Deferred.ofValue, Sem.run_bind, Sem.run_pure, Result.andThen_ok, invoke]
                rw [e, k1]
              split at ha
              · rename_i hn; exact fin true hn ha
              · split at ha
                · rename_i hn; exact fin false hn ha
                · cases ha
          · cases ha
      · cases ha
    · rename_i b hb
      have := sound_builtin hs b c.argTypes type (c.args.map fun | .const _ => true | _ => false) (arel_map hr c.args) ha
      have e : (do let d ← resolve ρ' c type; invoke d.target d.args : Sem Next).run P w = (builtin b c.argTypes type (c.args.map fun | .const _ => true | _ => false) (c.args.map ρ')).run P w := by
        simp only [resolve, hb, Sem.run_bind, Sem.run_pure, Result.andThen_ok, invoke]
        rfl
      rw [e]
      exact this
    · cases ha

end Go.Am
set_option linter.unusedVariables false
set_option linter.unusedSimpArgs false
/- Forgetting: blocks that nobody needs are dropped, the others get other numbers, slots are let go. -/
namespace Go.Am
open Go

/-- the blocks' numbers turn -/
def Emb.ren (f : Emb) (σ : Nat → Nat) : Emb := ⟨fun b => f (σ b), f.rom⟩

/-- 'v1' is what 'v' becomes when the block 'σ b' is called 'b' -/
inductive VRen (σ : Nat → Nat) (L : Nat) : Value → Value → Prop
  | junk (v : Value) : VRen σ L junk v
  | plain (v : Value) (h : plain1 v = true) : VRen σ L v v
  | ptr (b o b' : Nat) (hb : b < L) (e : b' = σ b) : VRen σ L (.pointer (some ⟨b, o, none⟩)) (.pointer (some ⟨b', o, none⟩))
  | map (b b' : Nat) (hb : b < L) (e : b' = σ b) : VRen σ L (.map (some b)) (.map (some b'))
  | slice (b o l c b' : Nat) (hb : b < L) (e : b' = σ b) : VRen σ L (.slice (some ⟨b, o, none⟩) l c) (.slice (some ⟨b', o, none⟩) l c)
  | func (fn : Fn) (xs ys cs ds : Array Value) (hfn : Fn.plain fn = true) (hx : xs.size = ys.size) (hxy : ∀ i : Nat, VRen σ L (xs.getD i junk) (ys.getD i junk))
      (hc : cs.size = ds.size) (hcd : ∀ i : Nat, VRen σ L (cs.getD i junk) (ds.getD i junk)) : VRen σ L (.func fn xs cs) (.func fn ys ds)
  | iface (t : TypeId) (v v' : Value) (hv : VRen σ L v v') : VRen σ L (.iface t v) (.iface t v')
  | agg (xs ys : Array Value) (hx : xs.size = ys.size) (hxy : ∀ i : Nat, VRen σ L (xs.getD i junk) (ys.getD i junk)) : VRen σ L (.agg xs) (.agg ys)
  | tuple (xs ys : Array Value) (hx : xs.size = ys.size) (hxy : ∀ i : Nat, VRen σ L (xs.getD i junk) (ys.getD i junk)) : VRen σ L (.tuple xs) (.tuple ys)
  | fz (xs ys : Array Value) (n : Nat) (hx : xs.size = ys.size) (hxy : ∀ i : Nat, VRen σ L (xs.getD i junk) (ys.getD i junk)) : VRen σ L (.func (.yield 0) xs #[.int .i64 n]) (.func (.yield 0) ys #[.int .i64 n])
  | fp (xs ys : Array Value) (n : Nat) (hx : xs.size = ys.size) (hxy : ∀ i : Nat, VRen σ L (xs.getD i junk) (ys.getD i junk)) : VRen σ L (.func (.yield 1) xs #[.int .i64 n]) (.func (.yield 1) ys #[.int .i64 n])
  | bnil : VRen σ L (.func (.yield 2) #[] #[]) (.func (.yield 2) #[] #[])

theorem VRen.comp {σ : Nat → Nat} {f : Emb} {L1 L : Nat} {v1 v v' : Value} (h : VRen σ L1 v1 v) : VRel f L v v' → VRel (f.ren σ) L1 v1 v' := by
  induction h generalizing v' with
  | junk v => intro _; exact .junk _
  | plain v h => intro k; cases plain1_inv h k; exact plain1_refl h
  | ptr b o b' hb e =>
    intro k
    subst e
    cases k with
    | ptr _ _ r o' hb' hr ho => exact .ptr b _ _ _ hb hr ho
  | map b b' hb e =>
    intro k
    subst e
    cases k with
    | map _ r hb' hr => exact .map b _ hb hr
  | slice b o l c b' hb e =>
    intro k
    subst e
    cases k with
    | slice _ _ _ _ c' r o' hb' hr ho hc => exact .slice b _ _ _ _ _ _ hb hr ho hc
    | slice0 a a' hb' => exact .slice0 _ _ hb
  | func fn xs ys cs ds hfn hx hxy hc hcd ih1 ih2 =>
    intro k
    cases k with
    | fz => cases hfn
    | fz0 => cases hfn
    | fp => cases hfn
    | bnil => cases hfn
    | func _ _ zs _ es hfn' hx' hxy' hc' hcd' => exact .func fn xs zs cs es hfn' (hx.trans hx') (fun i => ih1 i (hxy' i)) (hc.trans hc') (fun i => ih2 i (hcd' i))
  | iface t v w hv ih =>
    intro k
    cases k with
    | iface _ _ u hu => exact .iface t v u (ih hu)
  | agg xs ys hx hxy ih =>
    intro k
    cases k with
    | agg _ zs hx' hxy' hone' => exact .agg xs zs (hx.trans hx') (fun i => ih i (hxy' i)) hone'
  | tuple xs ys hx hxy ih =>
    intro k
    cases k with
    | tuple _ zs hx' hxy' => exact .tuple xs zs (hx.trans hx') (fun i => ih i (hxy' i))
  | fz xs ys n hx hxy ih =>
    intro k
    obtain ⟨n0, hn0, hc⟩ := k.fz_inv
    cases hn0
    rcases hc with ⟨r, o, c, ds, rfl, hrom, hle, hn, hxy', hone⟩ | ⟨rfl, rfl, a, c, rfl⟩
    · refine .fz xs n r o c ds hrom (by omega) hn (fun i => ?_) (fun i hi => hone i (by omega))
      have := hxy' i
      rw [← hx] at this
      exact ih i this
    · have : xs = #[] := Array.eq_empty_of_size_eq_zero (by simpa using hx)
      subst this
      exact .fz0 a c
  | fp xs ys n hx hxy ih =>
    intro k
    obtain ⟨n0, r, o, ds, hn0, rfl, hrom, hle, hxy', hone⟩ := k.fp_inv
    cases hn0
    refine .fp xs n r o _ ds hrom (by omega) rfl (fun i => ?_) (fun i hi => hone i (by omega))
    have := hxy' i
    rw [← hx] at this
    exact ih i this
  | bnil => intro k; obtain ⟨rfl, _, _⟩ := k.bnil_inv; exact .bnil

theorem VRel.narrow {f f0 : Emb} {L L0 : Nat} {v v0 v' : Value} (h : VRel f0 L0 v v0) : VRel f L v v' → VRel f L0 v v' := by
  induction h generalizing v' with
  | junk v => intro _; exact .junk _
  | bool b => intro k; cases k; exact .bool b
  | int k n => intro k; cases k; exact .int _ _
  | string s => intro k; cases k; exact .string s
  | nilFunc => intro k; cases k; exact .nilFunc
  | nilIface => intro k; cases k; exact .nilIface
  | nilPtr => intro k; cases k; exact .nilPtr
  | ptr b o r o' hb hr ho => intro k; cases k with | ptr _ _ r o' hb' hr ho => exact .ptr b _ _ _ hb hr ho
  | nilMap => intro k; cases k; exact .nilMap
  | map b r hb hr => intro k; cases k with | map _ r hb' hr => exact .map b _ hb hr
  | nilSlice l c => intro k; cases k; exact .nilSlice l c
  | slice b o l c c' r o' hb hr ho hc =>
    intro k
    cases k with
    | slice _ _ _ _ c' r o' hb' hr ho hc => exact .slice b _ _ _ _ _ _ hb hr ho hc
    | slice0 a a' hb' => exact .slice0 _ _ hb
  | slice0 a a' hb =>
    intro k
    cases k with
    | slice _ _ _ _ c' r o' hb' hr ho hc => exact .slice _ _ _ _ _ _ _ hb hr ho hc
    | slice0 a a' hb' => exact .slice0 _ _ hb
  | func fn xs ys cs ds hfn hx hxy hc hcd ih1 ih2 =>
    intro k
    cases k with
    | fz => cases hfn
    | fz0 => cases hfn
    | fp => cases hfn
    | bnil => cases hfn
    | func _ _ zs _ es hfn' hx' hxy' hc' hcd' => exact .func fn xs zs cs es hfn' hx' (fun i => ih1 i (hxy' i)) hc' (fun i => ih2 i (hcd' i))
  | iface t v w hv ih => intro k; cases k with | iface _ _ u hu => exact .iface t v u (ih hu)
  | agg xs ys hx hxy hone ih => intro k; cases k with | agg _ zs hx' hxy' hone' => exact .agg xs zs hx' (fun i => ih i (hxy' i)) hone'
  | tuple xs ys hx hxy ih => intro k; cases k with | tuple _ zs hx' hxy' => exact .tuple xs zs hx' (fun i => ih i (hxy' i))
  | fz cs n r o c ds hrom hle hn hxy hone ih =>
    intro k
    obtain ⟨n0, hn0, hc⟩ := k.fz_inv
    cases hn0
    rcases hc with ⟨r, o, c, ds, rfl, hrom, hle, hn, hxy', hone⟩ | ⟨rfl, rfl, a, c, rfl⟩
    · exact .fz cs n r o c ds hrom hle hn (fun i => ih i (hxy' i)) hone
    · exact .fz0 a c
  | fz0 a c =>
    intro k
    obtain ⟨n0, hn0, hc⟩ := k.fz_inv
    cases hn0
    rcases hc with ⟨r, o, c, ds, rfl, hrom, hle, hn, hxy', hone⟩ | ⟨_, _, a, c, rfl⟩
    · exact .fz0 _ c
    · exact .fz0 a c
  | fp cs n r o o' ds hrom hle ho hxy hone ih =>
    intro k
    obtain ⟨n0, r, o, ds, hn0, rfl, hrom, hle, hxy', hone⟩ := k.fp_inv
    cases hn0
    exact .fp cs n r o _ ds hrom hle rfl (fun i => ih i (hxy' i)) hone
  | bnil => intro k; obtain ⟨rfl, _, _⟩ := k.bnil_inv; exact .bnil

theorem ORel.narrow {f f0 : Emb} {L L0 : Nat} {I I0 : Img} {o : AObj} {o0 o' : Obj} (h : ORel f0 L0 I0 o o0) (hag : ∀ b, b < L0 → f b = f0 b) (k : ORel f L I o o') : ORel f L0 I o o' := by
  cases o with
  | dead => simp [ORel]
  | cells c es rw =>
    obtain ⟨c0, elem0, fr0, rfl, a2, a3, a4, a5, a6, a7⟩ := h
    obtain ⟨c', elem, fr, k1, k2, k3, k4, k5, k6, k7⟩ := k
    exact ⟨c', elem, fr, k1, k2, k3, k4, k5, k6, fun i hi => ⟨(a7 i hi).1.narrow (k7 i hi).1, (k7 i hi).2⟩⟩
  | map kk es clk =>
    obtain ⟨es0, rfl, a2, a3⟩ := h
    obtain ⟨es', k1, k2, k3⟩ := k
    refine ⟨es', k1, k2, fun i e he => ?_⟩
    obtain ⟨e0, b1, b2, b3, b4⟩ := a3 i e he
    obtain ⟨e', q1, q2, q3, q4⟩ := k3 i e he
    exact ⟨e', q1, q2, q3, b4.narrow q4⟩
  | miter m s seen st =>
    obtain ⟨_, m0, rfl, a2⟩ := h
    obtain ⟨k0, m', k1, k2⟩ := k
    refine ⟨k0, m', k1, ?_⟩
    cases m <;> cases m0 <;> cases m' <;> simp only at a2 k2 ⊢
    exact ⟨a2.1, k2.2⟩

def ORen (σ : Nat → Nat) (L : Nat) : AObj → AObj → Prop
  | .dead, _ => True
  | .cells c1 es1 rw1, o => ∃ c, o = .cells c es1 rw1 ∧ c1.size = c.size ∧ ∀ i : Nat, VRen σ L (c1.getD i junk) (c.getD i junk)
  | .map k1 es1 clk1, o => ∃ es, o = .map k1 es clk1 ∧ es1.size = es.size ∧ ∀ (i : Nat) (e1 : MapEntry), es1[i]? = some e1 → ∃ e : MapEntry, es[i]? = some e ∧ e.key = e1.key ∧ e.born = e1.born ∧ VRen σ L e1.val e.val
  | .miter m1 s1 seen1 st1, o => ∃ m, o = .miter m s1 seen1 st1 ∧ (match m1, m with | none, none => True | some b1, some b => b1 < L ∧ b = σ b1 | _, _ => False)

theorem ORen.comp {σ : Nat → Nat} {f : Emb} {L1 L : Nat} {I : Img} {o1 o : AObj} {o' : Obj} (h : ORen σ L1 o1 o) (k : ORel f L I o o') : ORel (f.ren σ) L1 I o1 o' := by
  cases o1 with
  | dead => simp [ORel]
  | cells c1 es1 rw1 =>
    obtain ⟨c, rfl, h1, h2⟩ := h
    obtain ⟨c', elem, fr, k1, k2, k3, k4, k5, k6, k7⟩ := k
    exact ⟨c', elem, fr, k1, h1.trans k2, k3, k4, k5, k6, fun i hi => ⟨(h2 i).comp (k7 i (by omega)).1, (k7 i (by omega)).2⟩⟩
  | map kk es1 clk1 =>
    obtain ⟨es, rfl, h1, h2⟩ := h
    obtain ⟨es', k1, k2, k3⟩ := k
    refine ⟨es', k1, h1.trans k2, fun i e1 he1 => ?_⟩
    obtain ⟨e, g1, g2, g3, g4⟩ := h2 i e1 he1
    obtain ⟨e', q1, q2, q3, q4⟩ := k3 i e g1
    exact ⟨e', q1, q2.trans g2, q3.trans g3, g4.comp q4⟩
  | miter m1 s1 seen1 st1 =>
    obtain ⟨m, rfl, h1⟩ := h
    obtain ⟨k0, m', k1, k2⟩ := k
    refine ⟨k0, m', k1, ?_⟩
    cases m1 <;> cases m <;> cases m' <;> simp only at h1 k2 ⊢
    obtain ⟨h1, h3⟩ := h1
    exact ⟨h1, by show _ = (f (σ _)).blk; rw [← h3]; exact k2.2⟩

theorem ORen.rw {σ : Nat → Nat} {L : Nat} {o1 o : AObj} (h : ORen σ L o1 o) (ha : o1.alive = true) : o.alive = true ∧ o.rw = o1.rw := by
  cases o1 with
  | dead => simp [AObj.alive] at ha
  | cells c1 es1 rw1 => obtain ⟨c, rfl, _⟩ := h; exact ⟨rfl, rfl⟩
  | map kk es1 clk1 => obtain ⟨c, rfl, _⟩ := h; exact ⟨rfl, rfl⟩
  | miter m1 s1 seen1 st1 => obtain ⟨c, rfl, _⟩ := h; exact ⟨rfl, rfl⟩

/-- The heap 'h', said shorter: 'h1'. -/
structure GC (h0 : AH) (σ : Nat → Nat) (h h1 : AH) : Prop where
  len : h0.length ≤ h1.length
  fix : ∀ b, b < h0.length → σ b = b
  obj : ∀ b o1, h1[b]? = some o1 → o1.alive = true → ∃ o, h[σ b]? = some o ∧ ((b < h0.length ∧ h0[b]? = some o1 ∧ o = o1) ∨ ORen σ h1.length o1 o)
  inj : ∀ b b', b < h1.length → b' < h1.length → σ b = σ b' → b = b'

theorem Sim.gc {P : Program} {f0 f : Emb} {h0 h h1 : AH} {w0 w : World} {σ : Nat → Nat} (s0 : Sim P f0 h0 w0) (hs : Sim P f h w) (hag : Emb.Agree h0.length f0 f) (g : GC h0 σ h h1) :
    Sim P (f.ren σ) h1 w := by
  have hlt : ∀ (b : Nat) (x : AObj), h1[b]? = some x → b < h1.length := fun b x hb => (List.getElem?_eq_some_iff.1 hb).1
  refine ⟨?_, ?_, ?_, Nat.le_trans s0.size g.len, ?_, hs.laid, ?_⟩
  · intro b o1 hb ha
    obtain ⟨o, h2, h3⟩ := g.obj b o1 hb ha
    rcases h3 with ⟨hl, h4, rfl⟩ | h3
    · have e0 : (f.ren σ) b = f b := by show f (σ b) = f b; rw [g.fix b hl]
      rw [g.fix b hl] at h2
      rw [e0]
      obtain ⟨o0, _, h7⟩ := s0.obj b o h4 ha
      obtain ⟨o', h5, h8⟩ := hs.obj b o h2 ha
      have h6 := h7.narrow (fun b hb => hag.1 b hb) h8
      exact ⟨o', h5, h6.mono g.len ⟨fun b' hb' => by show f (σ b') = f b'; rw [g.fix b' hb'], fun _ _ e => e⟩⟩
    · obtain ⟨o', h5, h6⟩ := hs.obj (σ b) o h2 (h3.rw ha).1
      exact ⟨o', h5, h3.comp h6⟩
  · intro b b' o1 o1' hb hb' ha ha' hrw hne
    obtain ⟨o, h2, h3⟩ := g.obj b o1 hb ha
    obtain ⟨o2, h2', h3'⟩ := g.obj b' o1' hb' ha'
    have e1 : o.alive = true ∧ o.rw = true := by
      rcases h3 with ⟨_, _, rfl⟩ | h3
      · exact ⟨ha, hrw⟩
      · exact ⟨(h3.rw ha).1, (h3.rw ha).2.trans hrw⟩
    have e2 : o2.alive = true := by
      rcases h3' with ⟨_, _, rfl⟩ | h3'
      · exact ha'
      · exact (h3'.rw ha').1
    exact hs.sep (σ b) (σ b') o o2 h2 h2' e1.1 e2 e1.2 (fun e => hne (g.inj b b' (hlt _ _ hb) (hlt _ _ hb') e))
  · intro gl hgl
    have : gl < h0.length := Nat.lt_of_lt_of_le hgl s0.size
    show (f (σ gl)).blk = gl ∧ (f (σ gl)).off = 0
    rw [g.fix gl this]
    exact hs.glob gl hgl
  · intro r ds hr
    obtain ⟨k1, k2⟩ := hs.rom r ds hr
    refine ⟨k1, fun b o1 hb hrw => ?_⟩
    have ha : o1.alive = true := by cases o1 <;> simp_all [AObj.rw, AObj.alive]
    obtain ⟨o, h2, h3⟩ := g.obj b o1 hb ha
    have : o.rw = true := by
      rcases h3 with ⟨_, _, rfl⟩ | h3
      · exact hrw
      · exact (h3.rw ha).2.trans hrw
    exact k2 (σ b) o h2 this
  · intro b o1 hb
    cases o1 with
    | map kk es1 clk1 =>
      obtain ⟨o, h2, h3⟩ := g.obj b _ hb rfl
      rcases h3 with ⟨_, _, rfl⟩ | ⟨es, rfl, k1, k2⟩
      · exact hs.ok (σ b) _ h2
      · refine mapOk_of (hs.ok (σ b) _ h2) ?_ ?_
        · apply List.ext_getElem (by simpa using k1)
          intro i q1 q2
          have hi : i < es1.size := by simpa using q1
          obtain ⟨e, p1, p2, p3, _⟩ := k2 i es1[i] (by simp [hi])
          have hi' : i < es.size := by omega
          rw [Array.getElem?_eq_getElem hi'] at p1
          cases p1
          simp [p2]
        · apply List.ext_getElem (by simpa using k1)
          intro i q1 q2
          have hi : i < es1.size := by simpa using q1
          obtain ⟨e, p1, p2, p3, _⟩ := k2 i es1[i] (by simp [hi])
          have hi' : i < es.size := by omega
          rw [Array.getElem?_eq_getElem hi'] at p1
          cases p1
          simp [p3]
    | _ => trivial

end Go.Am
set_option linter.unusedVariables false
set_option linter.unusedSimpArgs false
/- Code over abstract heaps. -/
namespace Go.Am
open Go

def Forget (h0 : AH) (a : Array Value) (h : AH) (a1 : Array Value) (h1 : AH) : Prop :=
  (a1 = a ∧ h1 = h) ∨ ∃ σ, GC h0 σ h h1 ∧ a1.size = a.size ∧ ∀ i : Nat, VRen σ h1.length (a1.getD i junk) (a.getD i junk)

theorem gc_own {P : Program} {f0 f : Emb} {h0 h h1 : AH} {w0 : World} {σ : Nat → Nat} (g : GC h0 σ h h1)
    (own : ∀ b o, h[b]? = some o → o.rw = true → w0.heap.size ≤ (f b).blk ∨ ∃ b0 o0, h0[b0]? = some o0 ∧ o0.rw = true ∧ (f0 b0).blk = (f b).blk) :
    ∀ b o, h1[b]? = some o → o.rw = true → w0.heap.size ≤ (f (σ b)).blk ∨ ∃ b0 o0, h0[b0]? = some o0 ∧ o0.rw = true ∧ (f0 b0).blk = (f (σ b)).blk := by
  intro b o1 hb hrw
  obtain ⟨o, h2, h3⟩ := g.obj b o1 hb (rw_alive hrw)
  have : o.rw = true := by
    rcases h3 with ⟨_, _, rfl⟩ | h3
    · exact hrw
    · exact (h3.rw (rw_alive hrw)).2.trans hrw
  exact own (σ b) o h2 this

theorem gc_rw {h0 h h1 : AH} {σ : Nat → Nat} (g : GC h0 σ h h1) : ∀ b o, h1[b]? = some o → o.rw = true → ∃ o0, h[σ b]? = some o0 ∧ o0.rw = true := by
  intro b o1 hb hrw
  obtain ⟨o, h2, h3⟩ := g.obj b o1 hb (rw_alive hrw)
  refine ⟨o, h2, ?_⟩
  rcases h3 with ⟨_, _, rfl⟩ | h3
  · exact hrw
  · exact (h3.rw (rw_alive hrw)).2.trans hrw

theorem Good.forget {P : Program} {f0 f : Emb} {h0 h h1 : AH} {w0 w : World} {a a1 : Array Value} {a' : Act} (s0 : Sim P f0 h0 w0) (g : Good P f0 h0 w0 f a h a' w) (fg : Forget h0 a h a1 h1) :
    ∃ f1, Good P f0 h0 w0 f1 a1 h1 a' w := by
  rcases fg with ⟨rfl, rfl⟩ | ⟨σ, gc, hsz, hv⟩
  · exact ⟨f, g⟩
  refine ⟨f.ren σ, ?_, ⟨hsz.trans g.tm.1, fun i => (hv i).comp (g.tm.2 i)⟩, g.df.ren (fun b o hb hr => let ⟨o0, h1, h2⟩ := gc_rw gc b o hb hr; ⟨σ b, o0, h1, h2, rfl⟩), g.keep, gc_own (P := P) (f := f) gc g.own, ⟨fun b hb => ?_, g.agree.2⟩, gc.len⟩
  · exact s0.gc g.sim g.agree gc
  · show f (σ b) = f0 b
    rw [gc.fix b hb]
    exact g.agree.1 b hb

/-- what is said of a frame and a heap may be said so, too -/
def Eases (P : Program) (h0 : AH) (a : Array Value) (h : AH) (a1 : Array Value) (h1 : AH) : Prop :=
  ∀ f0 w0 f a' w, Sim P f0 h0 w0 → Good P f0 h0 w0 f a h a' w → ∃ f1, Good P f0 h0 w0 f1 a1 h1 a' w

theorem Eases.refl {P : Program} {h0 : AH} {a : Array Value} {h : AH} : Eases P h0 a h a h := fun _ _ f _ _ _ g => ⟨f, g⟩
theorem Eases.trans {P : Program} {h0 : AH} {a a1 a2 : Array Value} {h h1 h2 : AH} (x : Eases P h0 a h a1 h1) (y : Eases P h0 a1 h1 a2 h2) : Eases P h0 a h a2 h2 :=
  fun f0 w0 f a' w s0 g => let ⟨f1, g1⟩ := x f0 w0 f a' w s0 g; y f0 w0 f1 a' w s0 g1
theorem Forget.eases {P : Program} {h0 : AH} {a a1 : Array Value} {h h1 : AH} (x : Forget h0 a h a1 h1) : Eases P h0 a h a1 h1 := fun _ _ _ _ _ s0 g => g.forget s0 x

def Lift (P : Program) (f0 : Emb) (h0 : AH) (w0 : World) (Q : Exit → Array Value → AH → Prop) : Exit → Act → World → Prop
  | .normal, a', w => ∃ f a h, Q .normal a h ∧ Good P f0 h0 w0 f a h a' w
  | .exit id, a', w => ∃ f a h, Q (.exit id) a h ∧ Good P f0 h0 w0 f a h a' w
  | .goto l, a', w => ∃ f a h, Q (.goto l) a h ∧ Good P f0 h0 w0 f a h a' w
  | .ret, a', w => ∃ f a h, Q .ret a h ∧ Good P f0 h0 w0 f a h a' w
  | .panic _, _, _ => False
  | .outgrown, _, _ => False

/-- whatever may be called, in a round of a loop over a function, or in none -/
def fenceR (ro : Option Nat) : Fence := { fn := fun _ => True, depth := none, alive := false, round := ro }
theorem fenceR_none : fenceR none = Fence.wide := rfl
theorem CallsIn.fenceR {P : Program} {n : Nat} {f : FuncId} {args : Array Value} {w : World} {R : Ending → World → Prop} (h : Calls P f args w R) (ro : Option Nat) : CallsIn (Am.fenceR ro) n P f args w R := by
  cases ro with
  | none => exact callsIn_wide.2 h
  | some l => exact CallsIn.inRound l (callsIn_wide.2 h)
theorem aop_defer {P : Program} {ρ : Operand → Value} {h : AH} {o : Oper} {r : ARes} (hr : aop P ρ h o = some r) : ∀ c, o.op ≠ .defer c := by
  intro c e
  obtain ⟨dst, op, ty, pos, after, guard⟩ := o
  simp only at e
  subst e
  simp [aop, amore] at hr
theorem semAt_R {P : Program} {ρ ρ' : Operand → Value} {h : AH} {o : Oper} {r : ARes} (hr : aop P ρ h o = some r) (ro : Option Nat) : Oper.semAt ro ρ' o = execOp ρ' o := by
  cases ro with
  | none => rfl
  | some l => exact Oper.semAt_some l ρ' o (aop_defer hr)

/-- in a round: the loop's record lies there, and nobody writes it -/
def RoundBase (f0 : Emb) (h0 : AH) (w0 : World) : Option Nat → Prop
  | none => True
  | some l => (∃ r, w0.heap[l]? = some (.loop r)) ∧ ∀ b o, h0[b]? = some o → o.rw = true → (f0 b).blk ≠ l

/-- the code, from a frame and an abstract heap, comes to Q -/
def AWP (P : Program) (h0 : AH) (c : Code) (Q : Exit → Array Value → AH → Prop) (a : Array Value) (h : AH) : Prop :=
  ∀ f0 w0 f a' w, Sim P f0 h0 w0 → Good P f0 h0 w0 f a h a' w → ∀ ro, RoundBase f0 h0 w0 ro → c.wpIn (fenceR ro) 0 P (Lift P f0 h0 w0 Q) a' w

def aput (a : Array Value) (dst : Option Tmp) (v : Value) : Array Value :=
  match dst with
  | some d => a.setIfInBounds d v
  | none => a

/-- is the operation wanted? (none: it can't be told) -/
def gval (ops : Array Oper) (a : Array Value) (o : Oper) : Option Bool :=
  match o.guard with
  | none => some true
  | some (j, want) => match (ops[j]?).bind (·.dst) with
    | some d => match a.getD d junk with
      | .bool b => some (b == want)
      | .tuple _ => some false
      | _ => none
    | none => none

/-- operations, one behind the other -/
def awl (P : Program) (ops : Array Oper) (Q : Exit → Array Value → AH → Prop) : List Oper → Array Value → AH → Prop
  | [], a, h => Q .normal a h
  | o :: rest, a, h =>
    match gval ops a o with
    | some false => awl P ops Q rest (aput a o.dst undef) h
    | some true => match aop P (aeval P a) h o with
      | some (.val v h1) => awl P ops Q rest (aput a o.dst v) h1
      | some (.skip h1) => awl P ops Q rest (aput a o.dst undef) h1
      | some (.enter F args) => ∃ R, ACalls P F args h R ∧ ∀ v h1, R v h1 → awl P ops Q rest (aput a o.dst v) h1
      | some (.any S) => ∀ v h1, S v h1 → awl P ops Q rest (aput a o.dst v) h1
      | none => False
    | none => False

theorem undef_rel {f : Emb} {L : Nat} : VRel f L undef undef := .tuple #[] #[] rfl (fun i => by simp; exact .junk _)

theorem ARel.aput {f : Emb} {L : Nat} {a : Array Value} {a' : Act} (h : ARel f L a a'.tmps) (dst : Option Tmp) {v v' : Value} (hv : VRel f L v v') : ARel f L (aput a dst v) (a'.put dst v').tmps := by
  cases dst with
  | none => exact h
  | some d => exact h.set d hv

theorem put_defers (a' : Act) (dst : Option Tmp) (v : Value) : (a'.put dst v).defers = a'.defers := by cases dst <;> rfl

theorem gval_wanted {f : Emb} {L : Nat} {ops : Array Oper} {a : Array Value} {a' : Act} (h : ARel f L a a'.tmps) {o : Oper} {t : Bool} (hg : gval ops a o = some t) : Region.wanted o (yielded ops a'.tmps) = t := by
  unfold gval at hg
  unfold Region.wanted
  split at hg
  · rename_i hgd
    rw [hgd]
    simp only [Option.some.injEq] at hg
    simp [hg]
  · rename_i j want hgd
    rw [hgd]
    simp only
    split at hg
    · rename_i d hd
      have hr := h.2 d
      unfold yielded
      rw [hd]
      simp only [Option.bind_some]
      split at hg
      · rename_i b hb
        rw [hb] at hr
        have h2 := hr.bool_inv
        have hlt : d < a'.tmps.size := by
          by_cases hl : d < a'.tmps.size
          · exact hl
          · rw [getD_ge d hl] at h2; cases h2
        have h3 : a'.tmps[d]? = some (.bool b) := by
          have : a'.tmps.getD d junk = a'.tmps[d] := by simp [Array.getD, hlt]
          rw [this] at h2
          rw [Array.getElem?_eq_getElem hlt, h2]
        rw [h3]
        simp only [Option.some.injEq] at hg
        subst hg
        cases b <;> cases want <;> rfl
      · rename_i vs hb
        rw [hb] at hr
        obtain ⟨ds, h2, _⟩ := hr.tuple_inv
        have hlt : d < a'.tmps.size := by
          by_cases hl : d < a'.tmps.size
          · exact hl
          · rw [getD_ge d hl] at h2; cases h2
        have h3 : a'.tmps[d]? = some (.tuple ds) := by
          have : a'.tmps.getD d junk = a'.tmps[d] := by simp [Array.getD, hlt]
          rw [this] at h2
          rw [Array.getElem?_eq_getElem hlt, h2]
        rw [h3]
        simp only [Option.some.injEq] at hg
        subst hg
        cases want <;> rfl
      · cases hg
    · cases hg

/-- one operation of the world, out of the abstract one -/
theorem oper_wp {P : Program} {f0 : Emb} {h0 : AH} {w0 : World} {f : Emb} {a : Array Value} {h : AH} {a' : Act} {w : World} (g : Good P f0 h0 w0 f a h a' w) (o : Oper) {r : ARes} (hr : aop P (aeval P a) h o = some r)
    {K : Act → World → Prop} {Q : Exit → Act → World → Prop}
    (hk : match r with
      | .val v h1 => ∀ f1 b' w1, Good P f0 h0 w0 f1 (aput a o.dst v) h1 b' w1 → K b' w1
      | .skip h1 => ∀ f1 b' w1, Good P f0 h0 w0 f1 (aput a o.dst undef) h1 b' w1 → K b' w1
      | .enter F args => ∃ R, ACalls P F args h R ∧ ∀ v h1, R v h1 → ∀ f1 b' w1, Good P f0 h0 w0 f1 (aput a o.dst v) h1 b' w1 → K b' w1
      | .any S => ∀ v h1, S v h1 → ∀ f1 b' w1, Good P f0 h0 w0 f1 (aput a o.dst v) h1 b' w1 → K b' w1) :
    ∀ ro, o.wpIn (fenceR ro) 0 P a' w K Q := by
  intro ro
  have hs := sound_aop g.sim (fun x => aeval_rel g.sim g.tm x) o hr
  refine ⟨fun _ _ => trivial, ?_⟩
  rw [show (fenceR ro).round = ro from rfl, semAt_R hr ro]
  cases r with
  | val v h1 =>
    obtain ⟨f1, v', w1, e, st, hv⟩ := hs
    rw [e, Oper.uponIn_value]
    exact hk f1 _ w1 (g.step st ((g.tm.step st).aput o.dst hv) (put_defers _ _ _))
  | skip h1 =>
    obtain ⟨f1, w1, e, st⟩ := hs
    rw [e, Oper.uponIn_skip]
    exact hk f1 _ w1 (g.step st ((g.tm.step st).aput o.dst undef_rel) (put_defers _ _ _))
  | enter F args =>
    obtain ⟨args', e, ha⟩ := hs
    obtain ⟨R, hc, hk⟩ := hk
    rw [e, Oper.uponIn_enter]
    refine ⟨fun h => (by cases h), CallsIn.fenceR ((hc.run f w args' g.sim ha).mono fun e w1 hx => ?_) ro⟩
    obtain ⟨f1, v, v', h1, rfl, hR, st, hv⟩ := hx
    exact hk v h1 hR f1 _ w1 (g.step st ((g.tm.step st).aput o.dst hv) (put_defers _ _ _))
  | any S =>
    obtain ⟨f1, v, v', h1, w1, e, hS, st, hv⟩ := hs
    rw [e, Oper.uponIn_value]
    exact hk v h1 hS f1 _ w1 (g.step st ((g.tm.step st).aput o.dst hv) (put_defers _ _ _))

theorem awl_sound {P : Program} {ops : Array Oper} {Q : Exit → Array Value → AH → Prop} {f0 : Emb} {h0 : AH} {w0 : World} (l : List Oper) : ∀ {f : Emb} {a : Array Value} {h : AH} {a' : Act} {w : World},
    awl P ops Q l a h → Good P f0 h0 w0 f a h a' w → ∀ ro, wpListIn (fenceR ro) 0 P ops (Lift P f0 h0 w0 Q) l a' w := by
  induction l with
  | nil => intro f a h a' w ha g ro; exact ⟨f, a, h, ha, g⟩
  | cons o rest ih =>
    intro f a h a' w ha g ro
    unfold awl at ha
    split at ha
    · rename_i hg
      have hw := gval_wanted g.tm hg
      unfold wpListIn
      rw [if_neg (by simp [hw])]
      exact ⟨fun _ _ => trivial, ih ha (g.step (Step.refl g.sim) (g.tm.aput o.dst undef_rel) (put_defers _ _ _)) ro⟩
    · rename_i hg
      have hw := gval_wanted g.tm hg
      unfold wpListIn
      rw [if_pos hw]
      split at ha
      · rename_i v h1 hr
        exact oper_wp g o hr (fun f1 b' w1 g1 => ih ha g1 ro) ro
      · rename_i h1 hr
        exact oper_wp g o hr (fun f1 b' w1 g1 => ih ha g1 ro) ro
      · rename_i F args hr
        obtain ⟨R, hc, hk⟩ := ha
        exact oper_wp g o hr ⟨R, hc, fun v h1 hR f1 b' w1 g1 => ih (hk v h1 hR) g1 ro⟩ ro
      · rename_i S hr
        exact oper_wp g o hr (fun v h1 hS f1 b' w1 g1 => ih (ha v h1 hS) g1 ro) ro
      · exact ha.elim
    · exact ha.elim

def thenA (next : Array Value → AH → Prop) (Q : Exit → Array Value → AH → Prop) : Exit → Array Value → AH → Prop
  | .normal, a, h => next a h
  | e, a, h => Q e a h

def inBlockA (id : Nat) (Q : Exit → Array Value → AH → Prop) : Exit → Array Value → AH → Prop
  | .exit id', a, h => if id' = id then Q .normal a h else Q (.exit id') a h
  | e, a, h => Q e a h

theorem AWP.region {P : Program} {h0 : AH} {id : Nat} {ops : Array Oper} {Q : Exit → Array Value → AH → Prop} {a : Array Value} {h : AH} (ha : awl P ops Q ops.toList a h) : AWP P h0 (.region id ops false) Q a h :=
  fun f0 w0 f a' w s0 g ro hrb => wpIn_region_list (awl_sound ops.toList ha g ro)

theorem AWP.seq {P : Program} {h0 : AH} {x y : Code} {Q : Exit → Array Value → AH → Prop} {a : Array Value} {h : AH} (ha : AWP P h0 x (thenA (AWP P h0 y Q) Q) a h) : AWP P h0 (.seq x y) Q a h := by
  intro f0 w0 f a' w s0 g ro hrb
  refine wpIn_seq (Go.wpIn_mono (ha f0 w0 f a' w s0 g ro hrb) fun e a1 w1 hq => ?_)
  cases e with
  | normal => obtain ⟨f1, b, h1, hk, g1⟩ := hq; exact hk f0 w0 f1 a1 w1 s0 g1 ro hrb
  | exit id => exact hq
  | goto l => exact hq
  | ret => exact hq
  | panic c => exact hq
  | outgrown => exact hq

theorem AWP.block {P : Program} {h0 : AH} {id : Nat} {c : Code} {Q : Exit → Array Value → AH → Prop} {a : Array Value} {h : AH} (ha : AWP P h0 c (inBlockA id Q) a h) : AWP P h0 (.block id c) Q a h := by
  intro f0 w0 f a' w s0 g ro hrb
  refine wpIn_block (Go.wpIn_mono (ha f0 w0 f a' w s0 g ro hrb) fun e a1 w1 hq => ?_)
  cases e with
  | normal => exact hq
  | exit id' =>
    obtain ⟨f1, b, h1, hk, g1⟩ := hq
    simp only [inBlockA] at hk
    show if id' = id then _ else _
    split
    · rename_i he; rw [if_pos he] at hk; exact ⟨f1, b, h1, hk, g1⟩
    · rename_i he; rw [if_neg he] at hk; exact ⟨f1, b, h1, hk, g1⟩
  | goto l => exact hq
  | ret => exact hq
  | panic c => exact hq
  | outgrown => exact hq

theorem AWP.mono {P : Program} {h0 : AH} {c : Code} {Q Q' : Exit → Array Value → AH → Prop} {a : Array Value} {h : AH} (ha : AWP P h0 c Q a h) (hq : ∀ e a h, Q e a h → Q' e a h) : AWP P h0 c Q' a h := by
  intro f0 w0 f a' w s0 g ro hrb
  refine Go.wpIn_mono (ha f0 w0 f a' w s0 g ro hrb) fun e a1 w1 hx => ?_
  cases e with
  | normal => obtain ⟨f1, b, h1, hk, g1⟩ := hx; exact ⟨f1, b, h1, hq _ _ _ hk, g1⟩
  | exit id => obtain ⟨f1, b, h1, hk, g1⟩ := hx; exact ⟨f1, b, h1, hq _ _ _ hk, g1⟩
  | goto l => obtain ⟨f1, b, h1, hk, g1⟩ := hx; exact ⟨f1, b, h1, hq _ _ _ hk, g1⟩
  | ret => obtain ⟨f1, b, h1, hk, g1⟩ := hx; exact ⟨f1, b, h1, hq _ _ _ hk, g1⟩
  | panic c => exact hx
  | outgrown => exact hx

theorem AWP.forget {P : Program} {h0 : AH} {c : Code} {Q : Exit → Array Value → AH → Prop} {a a1 : Array Value} {h h1 : AH} (fg : Forget h0 a h a1 h1) (ha : AWP P h0 c Q a1 h1) : AWP P h0 c Q a h := by
  intro f0 w0 f a' w s0 g ro hrb
  obtain ⟨f1, g1⟩ := g.forget s0 fg
  exact ha f0 w0 f1 a' w s0 g1 ro hrb

theorem AWP.ease {P : Program} {h0 : AH} {c : Code} {Q : Exit → Array Value → AH → Prop} {a a1 : Array Value} {h h1 : AH} (fg : Eases P h0 a h a1 h1) (ha : AWP P h0 c Q a1 h1) : AWP P h0 c Q a h := by
  intro f0 w0 f a' w s0 g ro hrb
  obtain ⟨f1, g1⟩ := fg f0 w0 f a' w s0 g
  exact ha f0 w0 f1 a' w s0 g1 ro hrb

theorem wpIn_loop_ghost {F : Fence} {k : Nat} {P : Program} {c : Code} {Q : Exit → Act → World → Prop} (I : Nat → Act → World → Prop)
    (round : ∀ n a w, I n a w → c.wpIn F k P (Exit.then (fun a' w' => ∃ m, m < n ∧ I m a' w') Q) a w) {n : Nat} {a : Act} {w : World} (h0 : I n a w) : (Code.loop c).wpIn F k P Q a w := by
  have μ : ∀ a w, ∃ k, (∃ n, I n a w) → (I k a w ∧ ∀ m, I m a w → k ≤ m) := by
    intro a w
    by_cases hx : ∃ n, I n a w
    · obtain ⟨n, hn⟩ := hx
      induction n using Nat.strongRecOn with
      | _ n ih =>
        by_cases hl : ∃ m, m < n ∧ I m a w
        · obtain ⟨m, hm, hi⟩ := hl
          exact ih m hm hi
        · exact ⟨n, fun _ => ⟨hn, fun m hm => Nat.le_of_not_lt fun hlt => hl ⟨m, hlt, hm⟩⟩⟩
    · exact ⟨0, fun h => absurd h hx⟩
  refine wpIn_loop (fun a w => ∃ n, I n a w) (fun a w => Classical.choose (μ a w)) ⟨n, h0⟩ fun a w hI => ?_
  obtain ⟨h1, h2⟩ := Classical.choose_spec (μ a w) hI
  refine Go.wpIn_mono (round _ a w h1) fun e a' w' hq => ?_
  cases e with
  | normal =>
    obtain ⟨m, hm, hi⟩ := hq
    refine ⟨⟨m, hi⟩, ?_⟩
    have := (Classical.choose_spec (μ a' w') ⟨m, hi⟩).2 m hi
    show Classical.choose (μ a' w') < Classical.choose (μ a w)
    omega
  | _ => exact hq

/-- a loop: what holds at each round's head (after forgetting), and what goes down -/
theorem AWP.loopE {P : Program} {h0 : AH} {c : Code} {Q : Exit → Array Value → AH → Prop} {a : Array Value} {h : AH} (I : Nat → Array Value → AH → Prop) {n : Nat} (hI : I n a h)
    (round : ∀ n a h, I n a h → AWP P h0 c (thenA (fun a1 h1 => ∃ m a2 h2, m < n ∧ Eases P h0 a1 h1 a2 h2 ∧ I m a2 h2) Q) a h) : AWP P h0 (.loop c) Q a h := by
  intro f0 w0 f a' w s0 g ro hrb
  refine wpIn_loop_ghost (fun n a' w => ∃ f a h, I n a h ∧ Good P f0 h0 w0 f a h a' w) (fun n a' w hx => ?_) (n := n) ⟨f, a, h, hI, g⟩
  obtain ⟨f1, b, h1, hi, g1⟩ := hx
  refine Go.wpIn_mono (round n b h1 hi f0 w0 f1 a' w s0 g1 ro hrb) fun e a1 w1 hq => ?_
  cases e with
  | normal =>
    obtain ⟨f2, b2, h2, ⟨m, a3, h3, hm, fg, hi3⟩, g2⟩ := hq
    obtain ⟨f3, g3⟩ := fg f0 w0 f2 a1 w1 s0 g2
    exact ⟨m, hm, f3, a3, h3, hi3, g3⟩
  | exit id => exact hq
  | goto l => exact hq
  | ret => exact hq
  | panic c => exact hq
  | outgrown => exact hq

theorem AWP.loop {P : Program} {h0 : AH} {c : Code} {Q : Exit → Array Value → AH → Prop} {a : Array Value} {h : AH} (I : Nat → Array Value → AH → Prop) {n : Nat} (hI : I n a h)
    (round : ∀ n a h, I n a h → AWP P h0 c (thenA (fun a1 h1 => ∃ m a2 h2, m < n ∧ Forget h0 a1 h1 a2 h2 ∧ I m a2 h2) Q) a h) : AWP P h0 (.loop c) Q a h :=
  AWP.loopE I hI fun n a h hi => AWP.mono (round n a h hi) fun e a1 h1 hq => by
    cases e with
    | normal => obtain ⟨m, a2, h2, hm, fg, hi⟩ := hq; exact ⟨m, a2, h2, hm, fg.eases, hi⟩
    | _ => exact hq

/-! ### code, taken apart -/
def ax (P : Program) (h0 : AH) : Code → (Exit → Array Value → AH → Prop) → Array Value → AH → Prop
  | .skip, Q, a, h => Q .normal a h
  | .region _ ops false, Q, a, h => awl P ops Q ops.toList a h
  | .seq x y, Q, a, h => ax P h0 x (thenA (ax P h0 y Q) Q) a h
  | .cond c x y, Q, a, h => ∃ t, aeval P a c = .bool t ∧ (t = true → ax P h0 x Q a h) ∧ (t = false → ax P h0 y Q a h)
  | .block id c, Q, a, h => ax P h0 c (inBlockA id Q) a h
  | .exit id, Q, a, h => Q (.exit id) a h
  | .ret, Q, a, h => Q .ret a h
  | .label _, Q, a, h => Q .normal a h
  | c, Q, a, h => AWP P h0 c Q a h

theorem thenA_mono {next next' : Array Value → AH → Prop} {Q : Exit → Array Value → AH → Prop} (h : ∀ a h, next a h → next' a h) : ∀ e a h, thenA next Q e a h → thenA next' Q e a h := by
  intro e a h' hq; cases e <;> first | exact h _ _ hq | exact hq

theorem ax_sound {P : Program} {h0 : AH} (c : Code) : ∀ (Q : Exit → Array Value → AH → Prop) (a : Array Value) (h : AH), ax P h0 c Q a h → AWP P h0 c Q a h := by
  induction c with
  | skip => intro Q a h ha f0 w0 f a' w s0 g ro hrb; exact Go.wpIn_skip ⟨f, a, h, ha, g⟩
  | region id ops draw =>
    intro Q a h ha
    cases draw with
    | false => exact AWP.region ha
    | true => exact ha
  | seq x y ihx ihy => intro Q a h ha; exact AWP.seq (AWP.mono (ihx _ a h ha) (thenA_mono fun a h hx => ihy Q a h hx))
  | cond c x y ihx ihy =>
    intro Q a h ha f0 w0 f a' w s0 g ro hrb
    obtain ⟨t, ht, h1, h2⟩ := ha
    have hc := aeval_rel g.sim g.tm c
    rw [ht] at hc
    refine wpIn_cond_split hc.bool_inv (fun e => ?_) (fun e => ?_)
    · exact ihx Q a h (h1 e) f0 w0 f a' w s0 g ro hrb
    · exact ihy Q a h (h2 e) f0 w0 f a' w s0 g ro hrb
  | block id c ih => intro Q a h ha; exact AWP.block (ih _ a h ha)
  | loop c ih => intro Q a h ha; exact ha
  | rangeFunc f ps as c ih1 ih2 => intro Q a h ha; exact ha
  | exit id => intro Q a h ha f0 w0 f a' w s0 g ro hrb; exact Go.wpIn_exit ⟨f, a, h, ha, g⟩
  | scope c ih => intro Q a h ha; exact ha
  | label l => intro Q a h ha f0 w0 f a' w s0 g ro hrb; exact Go.wpIn_label ⟨f, a, h, ha, g⟩
  | goto l => intro Q a h ha; exact ha
  | ret => intro Q a h ha f0 w0 f a' w s0 g ro hrb; exact Go.wpIn_ret ⟨f, a, h, ha, g⟩
  | refuse why => intro Q a h ha; exact ha

/-! ### functions -/
def ares1 (P : Program) (a : Array Value) (h : AH) : ResultVar → Option Value
  | .tmp t => some (a.getD t junk)
  | .cell p t => aload P h t (a.getD p junk)

def aresL (P : Program) (a : Array Value) (h : AH) : List ResultVar → Option (List Value)
  | [] => some []
  | r :: rest => match ares1 P a h r, aresL P a h rest with
    | some v, some vs => some (v :: vs)
    | _, _ => none

def aresults (P : Program) (fn : Func) (a : Array Value) (h : AH) : Option Value :=
  match aresL P a h fn.results.toList with
  | some [v] => some v
  | some vs => some (.tuple vs.toArray)
  | none => none

/-- what a function's value and heap may be said to be, shorter -/
def ForgetV (h0 : AH) (v : Value) (h : AH) (v1 : Value) (h1 : AH) : Prop := (v1 = v ∧ h1 = h) ∨ ∃ σ, GC h0 σ h h1 ∧ VRen σ h1.length v1 v

theorem ForgetV.eases {P : Program} {h0 h h1 : AH} {v v1 : Value} (x : ForgetV h0 v h v1 h1) : Eases P h0 #[v] h #[v1] h1 := by
  refine Forget.eases ?_
  rcases x with ⟨rfl, rfl⟩ | ⟨σ, g, r⟩
  · exact .inl ⟨rfl, rfl⟩
  · refine .inr ⟨σ, g, rfl, fun i => ?_⟩
    cases i with
    | zero => exact r
    | succ i => simp [Array.getD]; exact .junk _

def apost (P : Program) (h0 : AH) (fn : Func) (R : Value → AH → Prop) : Exit → Array Value → AH → Prop
  | .normal, a, h | .ret, a, h => ∃ v v1 h1, aresults P fn a h = some v ∧ Eases P h0 #[v] h #[v1] h1 ∧ R v1 h1
  | _, _, _ => False

theorem run_resL {P : Program} {f : Emb} {h : AH} {w : World} {a : Array Value} {a' : Act} (hs : Sim P f h w) (ht : ARel f h.length a a'.tmps) (l : List ResultVar) : ∀ {vs : List Value}, aresL P a h l = some vs →
    ∃ vs', (l.mapM (fun | .tmp t => pure (a'.tmps.getD t undef) | .cell p t => do loadVar t (← asAddr (a'.tmps.getD p undef)) : ResultVar → Sem Value)).run P w = .ok vs' w ∧ vs.length = vs'.length ∧ ∀ i : Nat, VRel f h.length (vs.getD i junk) (vs'.getD i junk) := by
  induction l with
  | nil => intro vs h1; simp [aresL] at h1; subst h1; exact ⟨[], by simp, rfl, fun i => by simp; exact .junk _⟩
  | cons r rest ih =>
    intro vs h1
    unfold aresL at h1
    split at h1
    · rename_i v vs0 hv hvs
      simp only [Option.some.injEq] at h1
      subst h1
      obtain ⟨vs', g1, g2, g3⟩ := ih hvs
      have hrun : ∃ v', ((fun | .tmp t => pure (a'.tmps.getD t undef) | .cell p t => do loadVar t (← asAddr (a'.tmps.getD p undef)) : ResultVar → Sem Value) r).run P w = .ok v' w ∧ VRel f h.length v v' := by
        cases r with
        | tmp t =>
          simp only [ares1, Option.some.injEq] at hv
          subst hv
          have := aeval_rel hs ht (.tmp t)
          exact ⟨a'.tmps.getD t undef, rfl, this⟩
        | cell p t =>
          simp only [ares1] at hv
          have hp := aeval_rel hs ht (.tmp p)
          simp only [aeval, Act.eval] at hp
          generalize ha : a.getD p junk = av at hp hv
          generalize ha' : a'.tmps.getD p undef = av' at hp
          cases hp with
          | ptr b o r' o' hb hr ho =>
            subst hr; subst ho
            obtain ⟨r1, k1, k2⟩ := sound_loadVar hs hv
            exact ⟨r1, by simp only [ha', asAddr, Sem.run_bind, Sem.run_pure, Result.andThen_ok, k1], k2⟩
          | fp cs k r' o o' ds hrom hle ho hxy hone =>
            subst ho
            simp only [aload, fzN_lit] at hv
            obtain ⟨r1, k1, k2⟩ := (hs.heldRom hrom hle hxy hone).loadVar hv
            exact ⟨r1, by simp only [ha', asAddr, Sem.run_bind, Sem.run_pure, Result.andThen_ok, k1], k2⟩
          | func fn xs ys cs ds hfn => exfalso; cases fn <;> simp [Fn.plain, aload] at hfn hv
          | _ => simp [aload, junk] at hv
      obtain ⟨v', k1, k2⟩ := hrun
      refine ⟨v' :: vs', ?_, by simp [g2], fun i => ?_⟩
      · rw [List.mapM_cons, Sem.run_bind, k1, Result.andThen_ok, Sem.run_bind, g1]
        rfl
      · cases i with
        | zero => simpa using k2
        | succ i => simpa using g3 i
    · cases h1

theorem run_results {P : Program} {f : Emb} {h : AH} {w : World} {fn : Func} {a : Array Value} {a' : Act} (hs : Sim P f h w) (ht : ARel f h.length a a'.tmps) {v : Value} (hv : aresults P fn a h = some v) :
    ∃ v', (results fn a'.tmps).run P w = .ok v' w ∧ VRel f h.length v v' := by
  unfold aresults at hv
  have key : ∀ vs, aresL P a h fn.results.toList = some vs → ∃ vs' : Array Value, (fn.results.mapM (fun | .tmp t => pure (a'.tmps.getD t undef) | .cell p t => do loadVar t (← asAddr (a'.tmps.getD p undef)) : ResultVar → Sem Value)).run P w = .ok vs' w ∧ vs.length = vs'.size ∧ ∀ i : Nat, VRel f h.length (vs.getD i junk) (vs'.getD i junk) := by
    intro vs hvs
    obtain ⟨vs', g1, g2, g3⟩ := run_resL hs ht fn.results.toList hvs
    refine ⟨vs'.toArray, ?_, by simpa using g2, fun i => by simpa [Array.getD_eq_getD_getElem?, List.getD] using g3 i⟩
    rw [Array.mapM_eq_mapM_toList, Sem.run_map, g1]
    rfl
  have e0 : (results fn a'.tmps).run P w = ((fn.results.mapM (fun | .tmp t => pure (a'.tmps.getD t undef) | .cell p t => do loadVar t (← asAddr (a'.tmps.getD p undef)) : ResultVar → Sem Value)).run P w).andThen
      fun vs w' => (pure (if h : vs.size = 1 then vs[0] else .tuple vs) : Sem Value).run P w' := by
    unfold results
    exact Sem.run_bind P w _ _
  split at hv
  · rename_i v0 hvs
    cases hv
    obtain ⟨vs', g1, g2, g3⟩ := key _ hvs
    have hsz : vs'.size = 1 := by simpa using g2.symm
    refine ⟨vs'[0], ?_, ?_⟩
    · rw [e0, g1, Result.andThen_ok]
      simp [hsz]
    · have := g3 0
      simpa [Array.getD, hsz] using this
  · rename_i vs hne hvs
    cases hv
    obtain ⟨vs', g1, g2, g3⟩ := key _ hvs
    have hsz : ¬ vs'.size = 1 := by
      intro e
      rw [e] at g2
      match vs, g2 with
      | [x], _ => exact hne x rfl
    refine ⟨.tuple vs', ?_, .tuple _ _ (by simpa using g2) (fun i => by simpa [Array.getD_eq_getD_getElem?, List.getD] using g3 i)⟩
    rw [e0, g1, Result.andThen_ok]
    simp [hsz]
  · cases hv

/-- the block that a loop over a function has left is shut -/
theorem Good.shut {P : Program} {f0 f : Emb} {h0 h : AH} {w0 w : World} {a : Array Value} {a' : Act} (g : Good P f0 h0 w0 f a h a' w) {d : Deferred} {ds : List Deferred} (e : a'.defers = d :: ds) :
    ∃ D, d.target = .collected D ∧ (Instr.takeDeferred D).run P w = .ok [] (w.putObj D (.deferred none)) ∧ Good P f0 h0 w0 f a h { a' with defers := ds } (w.putObj D (.deferred none)) := by
  obtain ⟨D, hd, h1, h2, h3⟩ := g.df.each d (by rw [e]; simp)
  have hlt : D < w.heap.size := (Array.getElem?_eq_some_iff.1 h2).1
  have hoth : ∀ {k : Nat}, k ≠ D → (w.putObj D (.deferred none)).heap[k]? = w.heap[k]? := fun hk => World.putObj_heap_other hk
  have hal : ∀ (b : Nat) (o : AObj), h[b]? = some o → o.alive = true → (f b).blk ≠ D := fun b o hb ha he => by
    obtain ⟨o', k1, k2⟩ := g.sim.obj b o hb ha
    rw [he, h2] at k1; cases k1
    cases o with
    | dead => cases ha
    | cells c es rw => obtain ⟨c', el, fr, k3, _⟩ := k2; cases k3
    | map k es clock => obtain ⟨es', k3, _⟩ := k2; cases k3
    | miter m s seen st => obtain ⟨_, m', k3, _⟩ := k2; cases k3
  refine ⟨D, by rw [hd], run_takeDeferred h2, ⟨fun b o hb ha => ?_, g.sim.sep, g.sim.glob, g.sim.size, fun r ds' hr => ?_, g.sim.laid, g.sim.ok⟩, g.tm, ⟨fun d' hd' => ?_, ?_⟩, ⟨g.keep.os, g.keep.tape, g.keep.output, by simpa using g.keep.size, fun r hr hno => ?_, g.keep.drawn⟩, g.own, g.agree, g.len⟩
  · obtain ⟨o', k1, k2⟩ := g.sim.obj b o hb ha
    exact ⟨o', (hoth (hal b o hb ha)).trans k1, k2⟩
  · obtain ⟨⟨el, fr, k1⟩, k2⟩ := g.sim.rom r ds' hr
    refine ⟨⟨el, fr, (hoth fun he => ?_).trans k1⟩, k2⟩
    rw [he, h2] at k1; cases k1
  · obtain ⟨D', k1, k2, k3, k4⟩ := g.df.each d' (by rw [e]; simp [show d' ∈ ds from hd'])
    refine ⟨D', k1, k2, (hoth fun he => ?_).trans k3, k4⟩
    have hn := g.df.apart
    rw [e, List.nodup_cons] at hn
    exact hn.1 (by rw [hd, ← he, ← k1]; exact hd')
  · have hn := g.df.apart
    rw [e, List.nodup_cons] at hn
    exact hn.2
  · rw [hoth (by omega)]; exact g.keep.block r hr hno

theorem Good.leaves {P : Program} {f0 : Emb} {h0 : AH} {w0 : World} {fn : Func} {R : Ending → World → Prop} {f : Emb} {a : Array Value} {h : AH} : ∀ (ds : List Deferred) {a' : Act} {w : World}, a'.defers = ds → Good P f0 h0 w0 f a h a' w →
    (∀ a'' w1, Good P f0 h0 w0 f a h a'' w1 → a''.tmps = a'.tmps → ∃ v, (results fn a''.tmps).run P w1 = .ok v w1 ∧ R (.returned v) w1) → LeavesInM Fence.wide 0 P fn a'.tmps R ds .returning w
  | [], a', w, _, g, hk => hk a' w g rfl
  | d :: ds, a', w, e, g, hk => by
    obtain ⟨D, h1, h2, g1⟩ := g.shut e
    exact ⟨by simp, .inl ⟨D, _, h1, h2, Good.leaves ds (a' := { a' with defers := ds }) rfl g1 hk⟩⟩

theorem ACalls.of_awp {P : Program} {F : FuncId} {fn : Func} {c : Code} (hf : P.funcs[F]? = some fn) (hb : fn.body = some c) {args : Array Value} {h : AH} {R : Value → AH → Prop} (inh : ∃ v h', R v h')
    (ha : AWP P h c (apost P h fn R) (args ++ Array.replicate (fn.ntmps - args.size) undef) h) : ACalls P F args h R := by
  refine ⟨inh, fun f w args' s0 hargs => ?_⟩
  have g : Good P f h w f (args ++ Array.replicate (fn.ntmps - args.size) undef) h { tmps := args' ++ Array.replicate (fn.ntmps - args'.size) undef, defers := [] } w := by
    refine ⟨s0, ?_, .nil, Keep.refl _ _ _, fun b o hb ho => .inr ⟨b, o, hb, ho, rfl⟩, .refl _ _, Nat.le_refl _⟩
    refine arel_append hargs ?_
    rw [hargs.1]
    refine ⟨rfl, fun i => ?_⟩
    by_cases hi : i < fn.ntmps - args'.size
    · have : (Array.replicate (fn.ntmps - args'.size) undef).getD i junk = undef := by simp [Array.getD, hi]
      rw [this]; exact undef_rel
    · rw [getD_ge i (by simpa using hi)]; exact .junk _
  refine (callsIn_wide (n := 0)).1 (callsIn_of_wp_marks hf hb trivial (Go.wpIn_mono (ha f w f _ w s0 g none trivial) fun e a1 w1 hq => ?_))
  have fin : ∀ (f1 : Emb) (b : Array Value) (h1 : AH), (∃ v v1 h2, aresults P fn b h1 = some v ∧ Eases P h #[v] h1 #[v1] h2 ∧ R v1 h2) → Good P f h w f1 b h1 a1 w1 →
      LeavesInM Fence.wide 0 P fn a1.tmps (fun e w' => ∃ f' v v' h', e = .returned v' ∧ R v h' ∧ Step P f h w f' h' w' ∧ VRel f' h'.length v v') a1.defers .returning w1 := by
    intro f1 b h1 hx g0
    obtain ⟨v, v1, h2, hv, hfg, hR⟩ := hx
    refine Good.leaves _ rfl g0 fun a1 w1 g1 _ => ?_
    obtain ⟨v', k1, k2⟩ := run_results g1.sim g1.tm hv
    have g2 : Good P f h w f1 #[v] h1 { tmps := #[v'], defers := [] } w1 := ⟨g1.sim, ⟨rfl, fun i => by
      cases i with
      | zero => exact k2
      | succ i => simp [Array.getD]; exact .junk _⟩, .nil, g1.keep, g1.own, g1.agree, g1.len⟩
    obtain ⟨f2, g3⟩ := hfg f w f1 _ w1 s0 g2
    exact ⟨v', k1, f2, v1, v', h2, rfl, hR, ⟨g3.sim, g3.agree, g3.len, g3.keep, g3.own⟩, by simpa using g3.tm.2 0⟩
  cases e with
  | normal => obtain ⟨f1, b, h1, hk, g1⟩ := hq; exact fin f1 b h1 hk g1
  | ret => obtain ⟨f1, b, h1, hk, g1⟩ := hq; exact fin f1 b h1 hk g1
  | exit id => obtain ⟨f1, b, h1, hk, g1⟩ := hq; exact hk.elim
  | goto l => obtain ⟨f1, b, h1, hk, g1⟩ := hq; exact hk.elim
  | panic c => exact hq.elim
  | outgrown => exact hq.elim

theorem ACalls.of_ax {P : Program} {F : FuncId} {fn : Func} {c : Code} (hf : P.funcs[F]? = some fn) (hb : fn.body = some c) {args : Array Value} {h : AH} {R : Value → AH → Prop} (inh : ∃ v h', R v h')
    (ha : ax P h c (apost P h fn R) (args ++ Array.replicate (fn.ntmps - args.size) undef) h) : ACalls P F args h R :=
  ACalls.of_awp hf hb inh (ax_sound c _ _ _ ha)

end Go.Am
