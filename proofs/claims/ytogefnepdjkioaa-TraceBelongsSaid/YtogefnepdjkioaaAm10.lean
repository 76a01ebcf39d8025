import Derived.Test.YtogefnepdjkioaaAm9n
import Derived.Maps.RangeRun
import Derived.Lib.BytesEntry
import Derived.Laws.Externs
set_option linter.unusedVariables false
set_option linter.unusedSimpArgs false
/- One operation. -/
namespace Go.Am
open Go

inductive ARes where
  | val (v : Value) (h : AH)
  | skip (h : AH)
  | enter (F : FuncId) (args : Array Value)
  | any (S : Value → AH → Prop)

def hasBody (P : Program) (F : FuncId) : Bool :=
  match P.funcs[F]? with
  | some fn => fn.name != "runtime.NumGoroutine" && fn.body.isSome
  | none => false

def aval (h : AH) : Option Value → Option ARes
  | some v => some (.val v h)
  | none => none

def avalh : Option (Value × AH) → Option ARes
  | some (v, h) => some (.val v h)
  | none => none

def askip : Option AH → Option ARes
  | some h => some (.skip h)
  | none => none

/-- the comparison of bytes, which has no body -/
def isCompare (P : Program) (F : FuncId) : Bool :=
  match P.funcs[F]? with
  | some fn => fn.name == "internal/bytealg.Compare" && fn.origin == "" && fn.body.isNone
  | none => false

def isByte : Value → Bool
  | .int .u8 _ => true
  | _ => false
def byteOf : Value → UInt8
  | .int _ n => n.toNat.toUInt8
  | _ => 0
def bytesV (c : Array Value) : ByteArray := ⟨c.map byteOf⟩
def cmpV (c d : Array Value) : Int := Extern.BytealgCompare.cmp (bytesV c) (bytesV d)
def isSlice : Value → Bool
  | .slice .. => true
  | .func (.yield 0) _ _ => true
  | _ => false

def acompare (h : AH) (x y : Value) : Option Value :=
  if isSlice x = true ∧ isSlice y = true then
    match asource h 1 x, asource h 1 y with
    | some (_, c), some (_, d) => if c.all isByte = true ∧ d.all isByte = true then some (.int .i64 (cmpV c d)) else none
    | _, _ => none
  else none

def isName (P : Program) (F : FuncId) (nm : String) : Bool :=
  match P.funcs[F]? with
  | some fn => fn.name == nm && fn.origin == "" && fn.body.isNone
  | none => false

/-- sums and differences with a carry -/
def acarry (add : Bool) (x y c : Value) : Option Value :=
  match x, y, c with
  | .int .u64 a, .int .u64 b, .int .u64 d => if d.toNat ≤ 1 then
      (if add then some (.tuple #[.int .u64 (Int.ofNat ((a.toNat + b.toNat + d.toNat) % 2 ^ 64)), .int .u64 (Int.ofNat ((a.toNat + b.toNat + d.toNat) / 2 ^ 64))])
       else some (.tuple #[.int .u64 (Int.ofNat ((a.toNat + 2 ^ 64 - b.toNat - d.toNat) % 2 ^ 64)), .int .u64 (Int.ofNat (if a.toNat < b.toNat + d.toNat then 1 else 0))])) else none
  | _, _, _ => none

def aextern (P : Program) (h : AH) (F : FuncId) (args : Array Value) : Option ARes :=
  match args.toList with
  | [x, y] => if isCompare P F then aval h (acompare h x y) else none
  | [x, y, c] => if isName P F "math/bits.Add64" then aval h (acarry true x y c) else if isName P F "math/bits.Sub64" then aval h (acarry false x y c) else none
  | _ => none

def acall (P : Program) (h : AH) (fv : Value) (args : Array Value) : Option ARes :=
  match fv with
  | .func (.func F) first captured => if hasBody P F then some (.enter F (first ++ args ++ captured)) else aextern P h F (first ++ args ++ captured)
  | _ => none

def abuiltin (P : Program) (h : AH) (b : Builtin) (ts : Array TypeId) (ty : TypeId) (args : Array Value) : Option ARes :=
  match b, ts.toList, args.toList with
  | .len, [t], [x] => aval h (alen P h t x)
  | .append, [t, u], [s, x] => avalh (aappend P h t u s x)
  | .copy, [t, _], [d, s] => avalh (acopy P h t d s)
  | .delete, [t, _], [m, k] => avalh (amDelete P h t m k)
  | .min, _, _ => if args.all plainB then aval h (plainOut (pureRun P (Builtin.min_ ts ty args))) else none
  | .max, _, _ => if args.all plainB then aval h (plainOut (pureRun P (Builtin.max_ ts ty args))) else none
  | _, _, _ => none

def amMake (P : Program) (h : AH) (t : TypeId) : Option (Value × AH) :=
  match P.underlying t with
  | some (.map k _) => if keyTy P k then some (.map (some h.length), h ++ [.map k #[] 0]) else none
  | _ => none

def amRange (P : Program) (h : AH) (t : TypeId) (x : Value) : Option (Value × AH) :=
  match P.underlying t, x with
  | some (.map _ _), .map none => some (.pointer (some ⟨h.length, 0, none⟩), h ++ [.miter none 0 #[] 0])
  | some (.map _ _), .map (some b) => match h[b]? with
    | some (.map _ _ clock) => some (.pointer (some ⟨h.length, 0, none⟩), h ++ [.miter (some b) clock #[] clock])
    | _ => none
  | _, _ => none

def amNext (h : AH) (it : Value) : Option ARes :=
  match it with
  | .pointer (some ⟨r, 0, none⟩) => match h[r]? with
    | some (.miter none _ _ _) => some (.val (.tuple #[.bool false]) h)
    | some (.miter (some m) since seen c0) => match h[m]? with
      | some (.map _ es clock) => if es.all (fun e => decide (e.born < since)) && decide (since ≤ c0) then
          some (.any fun v h1 => ((leftOf es seen).size = 0 ∧ v = .tuple #[.bool false] ∧ h1 = h) ∨
            ∃ e ∈ (leftOf es seen).toList, v = .tuple #[.bool true, e.key, e.val] ∧ h1 = h.set r (.miter (some m) since (seen.push e.born) clock)) else none
      | _ => none
    | _ => none
  | _ => none

def amEntryOf (h : AH) (it : Value) : Option Value :=
  match it with
  | .pointer (some ⟨r, 0, none⟩) => match h[r]? with
    | some (.miter (some m) _ seen stepped) => match h[m]?, seen.back? with
      | some (.map _ es clock), some b => if clock = stepped then (es.find? (·.born == b)).map fun e => .tuple #[e.key, e.val] else none
      | _, _ => none
    | _ => none
  | _ => none

/-- what is not needed for most -/
def amore (P : Program) (ρ : Operand → Value) (h : AH) (o : Oper) : Option ARes := none

def aop (P : Program) (ρ : Operand → Value) (h : AH) (o : Oper) : Option ARes :=
  match o.op with
  | .move x => some (.val (ρ x) h)
  | .assign x => some (.val (ρ x) h)
  | .pick c a b => match ρ c with
    | .bool t => some (.val (if t then ρ a else ρ b) h)
    | _ => none
  | .alloc e => avalh (aalloc P h e)
  | .box _ x => avalh (abox h (ρ x))
  | .build t ps => aval h (abuild P t (ps.toList.map fun (i, x) => (i, ρ x)))
  | .buildSlice t n ps => avalh (abuildSlice P h t n (ps.toList.map fun (i, x) => (i, ρ x)))
  | .load t a => aval h (aload P h t (ρ a))
  | .store t a x => askip (astore P h t (ρ a) (ρ x))
  | .nilCheck x => aval h (anilCheck (ρ x))
  | .binOp op t x y _ => aval h (abinOp P op t x y (ρ x) (ρ y))
  | .unOp op _ x => aval h (aunOp P op (ρ x))
  | .convert s d x => avalh (aconvert P h s d (ρ x))
  | .sliceToArrayPointer t x => aval h (aarrayPtr P t (ρ x))
  | .makeInterface t x => aval h (amakeIface P t (ρ x))
  | .makeFunc fn xs cs => aval h (amakeFunc fn (xs.map ρ) (cs.map ρ))
  | .makeMap t none => avalh (amMake P h t)
  | .makeSlice t l c => avalh (amakeSlice P h t (ρ l) (ρ c))
  | .slice t x lo hi none => aval h (aslice P h t (ρ x) (lo.map ρ) (hi.map ρ))
  | .fieldAddr t x k => aval h (afieldAddr P t (ρ x) k)
  | .field t x k => aval h (afield P t (ρ x) k)
  | .indexAddr t x i => aval h (aindexAddr P t (ρ x) (ρ i))
  | .index t x i => aval h (aindex P t (ρ x) (ρ i))
  | .extract x k => aval h (aextract (ρ x) k)
  | .call c => match c.callee with
    | .value f => acall P h (ρ f) (c.args.map ρ)
    | .builtin b => abuiltin P h b c.argTypes o.type (c.args.map ρ)
    | _ => none
  | .lookup t x i ok => aval h (amLookup P h t (ρ x) (ρ i) ok)
  | .mapUpdate t m k x => askip (amUpdate P h t (ρ m) (ρ k) (ρ x))
  | .insert t m k x => askip (amUpdate P h t (ρ m) (ρ k) (ρ x))
  | .mapEntry t m k => avalh (amEntry P h t (ρ m) (ρ k))
  | .entryStore _ m s x => askip (amEntryStore h (ρ m) (ρ s) (ρ x))
  | .range t x => avalh (amRange P h t (ρ x))
  | .next it false => amNext h (ρ it)
  | .entry it => aval h (amEntryOf h (ρ it))
  | _ => amore P ρ h o

def ResOk (P : Program) (f : Emb) (h : AH) (w : World) : ARes → Result Next → Prop
  | .val v h1, res => ∃ f1 v' w1, res = .ok (.value v') w1 ∧ Step P f h w f1 h1 w1 ∧ VRel f1 h1.length v v'
  | .skip h1, res => ∃ f1 w1, res = .ok .skip w1 ∧ Step P f h w f1 h1 w1
  | .enter F args, res => ∃ args', res = .ok (.enter F args') w ∧ ARel f h.length args args'
  | .any S, res => ∃ f1 v v' h1 w1, res = .ok (.value v') w1 ∧ S v h1 ∧ Step P f h w f1 h1 w1 ∧ VRel f1 h1.length v v'

theorem aval_some {h : AH} {o : Option Value} {r : ARes} (ha : aval h o = some r) : ∃ v, o = some v ∧ r = .val v h := by
  cases o <;> simp [aval] at ha; exact ⟨_, rfl, ha.symm⟩
theorem avalh_some {o : Option (Value × AH)} {r : ARes} (ha : avalh o = some r) : ∃ v h, o = some (v, h) ∧ r = .val v h := by
  cases o <;> simp [avalh] at ha; exact ⟨_, _, rfl, ha.symm⟩
theorem askip_some {o : Option AH} {r : ARes} (ha : askip o = some r) : ∃ h, o = some h ∧ r = .skip h := by
  cases o <;> simp [askip] at ha; exact ⟨_, rfl, ha.symm⟩

theorem prel_map {f : Emb} {L : Nat} {ρ ρ' : Operand → Value} (hr : ∀ x, VRel f L (ρ x) (ρ' x)) (ps : List (Nat × Operand)) :
    PRel f L (ps.map fun (i, x) => (i, ρ x)) (ps.map fun (i, x) => (i, ρ' x)) := by
  induction ps with
  | nil => trivial
  | cons p r ih => exact ⟨rfl, hr _, ih⟩

theorem arel_map {f : Emb} {L : Nat} {ρ ρ' : Operand → Value} (hr : ∀ x, VRel f L (ρ x) (ρ' x)) (xs : Array Operand) : ARel f L (xs.map ρ) (xs.map ρ') := by
  refine ⟨by simp, fun i => ?_⟩
  by_cases hi : i < xs.size
  · simp [Array.getD, hi]; exact hr _
  · rw [getD_ge i (by simpa using hi)]; exact .junk _

theorem arel_append {f : Emb} {L : Nat} {A A' B B' : Array Value} (h : ARel f L A A') (k : ARel f L B B') : ARel f L (A ++ B) (A' ++ B') := by
  refine ⟨by simp [h.1, k.1], fun i => ?_⟩
  by_cases hi : i < A.size
  · rw [getD_append_left' _ _ _ hi, getD_append_left' _ _ _ (h.1 ▸ hi)]; exact h.2 i
  · rw [getD_append_right' _ _ _ (by omega), getD_append_right' _ _ _ (by have := h.1; omega), h.1]; exact k.2 _

theorem optrel_map {f : Emb} {L : Nat} {ρ ρ' : Operand → Value} (hr : ∀ x, VRel f L (ρ x) (ρ' x)) (o : Option Operand) : OptRel f L (o.map ρ) (o.map ρ') := by
  cases o with
  | none => trivial
  | some x => exact hr x

theorem run_callFunc {P : Program} {F : FuncId} (h : hasBody P F = true) (args : Array Value) (w : World) : (callFunc F args).run P w = .ok (.enter F args) w := by
  unfold hasBody at h
  split at h
  · rename_i fn hf
    simp only [Bool.and_eq_true, bne_iff_ne, ne_eq] at h
    have h1 : (fn.name == "runtime.NumGoroutine") = false := by simpa using h.1
    have h2 : fn.body.isNone = false := by cases hb : fn.body <;> simp_all
    simp only [callFunc, Sem.run_bind, run_program, Result.andThen_ok, hf, h1, h2, Bool.false_eq_true, if_false, Sem.run_pure]
  · cases h

theorem isCompare_run {P : Program} {F : FuncId} (h : isCompare P F = true) (args : Array Value) (w : World) : (callFunc F args).run P w = ((Extern.BytealgCompare.compare args).run P w).andThen fun v w' => .ok (.value v) w' := by
  unfold isCompare at h
  split at h
  · rename_i fn hf
    simp only [Bool.and_eq_true, beq_iff_eq] at h
    obtain ⟨⟨h1, h2⟩, h3⟩ := h
    refine run_callFunc_extern hf (by rw [h1]; rfl) h3 ?_ ?_ args w
    · simp only [Extern.findNext, h1, h2]
      have e1 : Extern.allNextRows.lookup "internal/bytealg.Compare" = none := by kernel_rfl
      have e2 : Extern.allNextRows.lookup "" = none := by kernel_rfl
      rw [e1, e2]; rfl
    · simp only [Extern.find, h1, h2]
      have e1 : Extern.allGenericRows.lookup "internal/bytealg.Compare" = none := by kernel_rfl
      have e2 : Extern.allTypedRows.lookup "internal/bytealg.Compare" = none := by kernel_rfl
      have e3 : Extern.allRows.lookup "internal/bytealg.Compare" = some Extern.BytealgCompare.compare := by kernel_rfl
      rw [e1, e2, e3]; rfl
  · cases h

theorem isName_run {P : Program} {F : FuncId} {nm : String} {g : Array Value → Sem Value} (h : isName P F nm = true) (e0 : Extern.allNextRows.lookup nm = none) (e0' : Extern.allNextRows.lookup "" = none) (e1 : Extern.allGenericRows.lookup nm = none) (e1' : Extern.allGenericRows.lookup "" = none) (e2 : Extern.allTypedRows.lookup nm = none) (e3 : Extern.allRows.lookup nm = some g)
    (hn : nm ≠ "runtime.NumGoroutine") (args : Array Value) (w : World) : (callFunc F args).run P w = ((g args).run P w).andThen fun v w' => .ok (.value v) w' := by
  unfold isName at h
  split at h
  · rename_i fn hf
    simp only [Bool.and_eq_true, beq_iff_eq] at h
    obtain ⟨⟨h1, h2⟩, h3⟩ := h
    refine run_callFunc_extern hf (by rw [h1]; simpa using hn) h3 ?_ ?_ args w
    · simp only [Extern.findNext, h1, h2]
      rw [e0, e0']; rfl
    · simp only [Extern.find, h1, h2]
      rw [e1, e2, e3]; rfl
  · cases h

theorem three_run {P : Program} (nm : String) (a b d : Int) (k1 k2 k3 : IntKind) (hd : d.toNat ≤ 1) (w : World) : (Extern.MathBitsCarry.three nm #[.int k1 a, .int k2 b, .int k3 d]).run P w = .ok (a.toNat, b.toNat, d.toNat) w := by
  have e : Extern.MathBitsCarry.three nm #[.int k1 a, .int k2 b, .int k3 d] = (do
      let c := (← asInt (Value.int k3 d)).toNat
      if c > 1 then unsupported (.noEntry ("extern/math/bits." ++ nm ++ ": a carry that is neither 0 nor 1"))
      pure ((← asInt (Value.int k1 a)).toNat, (← asInt (Value.int k2 b)).toNat, c)) := rfl
  rw [e]
  have hd' : ¬ (d.toNat > 1) := by omega
  simp only [Sem.run_bind, asInt, asIntOf, Sem.run_pure, Result.andThen_ok, hd', if_false]

theorem carry_run {P : Program} {F : FuncId} {add : Bool} (h : isName P F (if add then "math/bits.Add64" else "math/bits.Sub64") = true) {x y c r : Value} (hr : acarry add x y c = some r) (w : World) :
    (callFunc F #[x, y, c]).run P w = .ok (.value r) w ∧ ∃ a b : Int, r = .tuple #[.int .u64 a, .int .u64 b] := by
  unfold acarry at hr
  split at hr
  case h_2 => cases hr
  rename_i a b d
  split at hr
  case isFalse => cases hr
  rename_i hd
  have hd' : ¬ (d.toNat > 1) := by omega
  cases add with
  | true =>
    simp only [if_true, Option.some.injEq] at hr
    subst hr
    refine ⟨?_, _, _, rfl⟩
    rw [isName_run (nm := "math/bits.Add64") h (by kernel_rfl) (by kernel_rfl) (by kernel_rfl) (by kernel_rfl) (by kernel_rfl) (g := fun args => do let (x, y, c) ← Extern.MathBitsCarry.three "Add64" args; pure (Extern.MathBitsCarry.pair ((x + y + c) % Extern.MathBitsCarry.m64) ((x + y + c) / Extern.MathBitsCarry.m64))) (by kernel_rfl) (by decide)]
    simp only [Sem.run_bind, three_run _ _ _ _ _ _ _ hd, Sem.run_pure, Result.andThen_ok, Extern.MathBitsCarry.pair, Extern.MathBitsCarry.m64]
  | false =>
    simp only [Bool.false_eq_true, if_false, Option.some.injEq] at hr
    subst hr
    refine ⟨?_, _, _, rfl⟩
    rw [isName_run (nm := "math/bits.Sub64") h (by kernel_rfl) (by kernel_rfl) (by kernel_rfl) (by kernel_rfl) (by kernel_rfl) (g := fun args => do let (x, y, c) ← Extern.MathBitsCarry.three "Sub64" args; pure (Extern.MathBitsCarry.pair ((x + Extern.MathBitsCarry.m64 - y - c) % Extern.MathBitsCarry.m64) (if x < y + c then 1 else 0))) (by kernel_rfl) (by decide)]
    simp only [Sem.run_bind, three_run _ _ _ _ _ _ _ hd, Sem.run_pure, Result.andThen_ok, Extern.MathBitsCarry.pair, Extern.MathBitsCarry.m64]

theorem bytesV_nil : bytesV #[] = .empty := by apply ByteArray.ext; simp [bytesV, ByteArray.empty, ByteArray.emptyWithCapacity]; rfl
theorem compare_two (a b : Value) : Extern.BytealgCompare.compare #[a, b] = (do pure (goInt (Extern.BytealgCompare.cmp (← Extern.Bytes.bytesOf a) (← Extern.Bytes.bytesOf b)))) := rfl

theorem Held.bytes {P : Program} {f : Emb} {L : Nat} {w : World} {c0 : Array Value} {r base : Nat} (hh : Held f L w c0 r base) (o n' c' : Nat) (hle : o + n' ≤ c0.size) (hb : (c0.extract o (o + n')).all isByte = true) :
    (Extern.Bytes.bytesOf (.slice (some ⟨r, base + o, none⟩) n' c')).run P w = .ok (bytesV (c0.extract o (o + n'))) w := by
  obtain ⟨cc, elem, fr, ho', h5, h6⟩ := hh
  let xs := (List.range n').map fun j => match c0.getD (o + j) junk with | .int _ m => m | _ => 0
  have hcell : ∀ j x, xs[j]? = some x → w.cell? ((⟨r, base + o, none⟩ : Addr).add j) = some (.int .u8 x) := by
    intro j x hj
    have hj' : j < n' := by have := (List.getElem?_eq_some_iff.1 hj).1; simpa [xs] using this
    have e : (⟨r, base + o, none⟩ : Addr).add j = ⟨r, base + (o + j), none⟩ := by unfold Addr.add; split <;> simp_all <;> omega
    rw [e]
    have hin : o + j < c0.size := by omega
    have hrel := (h6 (o + j) hin).1
    have hby : isByte (c0.getD (o + j) junk) = true := by
      rw [Array.all_eq_true] at hb
      have := hb j (by simp; omega)
      simpa [Array.getD, hin] using this
    simp only [xs, List.getElem?_map, List.getElem?_range hj', Option.map_some, Option.some.injEq] at hj
    generalize hv : c0.getD (o + j) junk = v at hrel hby hj
    have : ∃ m, v = .int .u8 m := by
      unfold isByte at hby
      split at hby
      · exact ⟨_, rfl⟩
      · cases hby
    obtain ⟨m, rfl⟩ := this
    simp only at hj
    subst hj
    have hrv := hrel.int_inv
    unfold World.cell?
    rw [ho']
    have hin' : base + (o + j) < cc.size := by omega
    simp only [Option.isSome_none, Bool.false_eq_true, if_false]
    rw [Array.getElem?_eq_getElem hin']
    simpa [Array.getD, hin'] using hrv
  have hlen : xs.length = n' := by simp [xs]
  have := Lib.run_loadBytesX (P := P) w xs ⟨r, base + o, none⟩ .empty hcell
  rw [hlen] at this
  show (Extern.Bytes.loadBytes _ n' .empty).run P w = _
  rw [this]
  congr 1
  apply ByteArray.ext
  have e0 : ByteArray.empty.data = #[] := rfl
  simp only [bytesV, e0, Array.empty_append]
  apply Array.ext
  · simp [Lib.bytesOf, xs]; omega
  · intro i hi1 hi2
    have hi : i < n' := by simpa [Lib.bytesOf, xs] using hi1
    have hin : o + i < c0.size := by omega
    have hby : isByte (c0.getD (o + i) junk) = true := by
      rw [Array.all_eq_true] at hb
      have := hb i (by simp; omega)
      simpa [Array.getD, hin] using this
    have e2 : c0.getD (o + i) junk = c0[o + i] := by simp [Array.getD, hin]
    simp only [Lib.bytesOf, xs, List.getElem_toArray, List.getElem_map, List.getElem_range, Array.getElem_map, Array.getElem_extract, e2]
    rw [e2] at hby
    generalize c0[o + i] = v at hby
    unfold isByte at hby
    split at hby
    · rfl
    · cases hby

theorem sound_bytes {P : Program} {f : Emb} {h : AH} {w : World} (hs : Sim P f h w) {x x' : Value} (hx : VRel f h.length x x') (hsl : isSlice x = true) {n : Nat} {c : Array Value} (ha : asource h 1 x = some (n, c)) (hb : c.all isByte = true) :
    (Extern.Bytes.bytesOf x').run P w = .ok (bytesV c) w := by
  unfold asource at ha
  split at ha
  · rename_i b o n' cap
    split at ha
    · rename_i hz
      simp only [Option.some.injEq, Prod.mk.injEq] at ha
      obtain ⟨rfl, rfl⟩ := ha
      subst hz
      rcases hx.slice_inv with ⟨c', rfl, _, _⟩ | ⟨_, _, a', rfl, _⟩ <;> (rw [bytesV_nil]; rfl)
    · rename_i hnz
      split at ha
      · rename_i c0 es rw hbk
        split at ha
        · rename_i hle
          simp only [Option.some.injEq, Prod.mk.injEq, Nat.mul_one] at ha hle
          obtain ⟨rfl, rfl⟩ := ha
          rcases hx.slice_inv with ⟨c', rfl, hbL, hc⟩ | ⟨h0, _, _, _, _⟩
          · exact (hs.held hbk).bytes o n' c' hle hb
          · exact absurd h0 hnz
        · cases ha
      · cases ha
  · rename_i n' cap
    split at ha
    · rename_i hz
      simp only [Option.some.injEq, Prod.mk.injEq] at ha
      obtain ⟨rfl, rfl⟩ := ha
      subst hz
      cases hx
      rw [bytesV_nil]; rfl
    · cases ha
  · simp [isSlice] at hsl
  · rename_i cs ks
    obtain ⟨n0, rfl, hcz⟩ := hx.fz_inv
    rw [fzN_lit] at ha
    simp only [Nat.mul_one] at ha
    split at ha
    case isFalse => cases ha
    rename_i hle
    simp only [Option.some.injEq, Prod.mk.injEq] at ha
    obtain ⟨rfl, rfl⟩ := ha
    rcases hcz with ⟨r0, o0, c0, ds0, rfl, hrom, hle2, hn, hxy, hone⟩ | ⟨rfl, rfl, a, c0, rfl⟩
    · have := (hs.heldRom hrom hle2 hxy hone).bytes (P := P) 0 n0 c0 (by omega) (by simpa using hb)
      simpa using this
    · have e : (#[] : Array Value).extract 0 0 = #[] := rfl
      rw [e, bytesV_nil]; rfl
  · cases ha

theorem arr1 {α : Type} {a : Array α} {x : α} (h : a.toList = [x]) : a = #[x] := by cases a; simp_all
theorem arr2 {α : Type} {a : Array α} {x y : α} (h : a.toList = [x, y]) : a = #[x, y] := by cases a; simp_all

theorem arel_one {f : Emb} {L : Nat} {x : Value} {ys : Array Value} (h : ARel f L #[x] ys) : ∃ y, ys = #[y] ∧ VRel f L x y := by
  obtain ⟨l⟩ := ys
  match l, h with
  | [y], h => exact ⟨y, rfl, by simpa using h.2 0⟩
  | [], h => simp [ARel] at h
  | _ :: _ :: _, h => simp [ARel] at h

theorem arel_two {f : Emb} {L : Nat} {x x2 : Value} {ys : Array Value} (h : ARel f L #[x, x2] ys) : ∃ y y2, ys = #[y, y2] ∧ VRel f L x y ∧ VRel f L x2 y2 := by
  obtain ⟨l⟩ := ys
  match l, h with
  | [y, y2], h => exact ⟨y, y2, rfl, by simpa using h.2 0, by simpa using h.2 1⟩
  | [], h => simp [ARel] at h
  | [_], h => simp [ARel] at h
  | _ :: _ :: _ :: _, h => simp [ARel] at h

theorem arr3 {α : Type} {a : Array α} {x y z : α} (h : a.toList = [x, y, z]) : a = #[x, y, z] := by cases a; simp_all
theorem arel_three {f : Emb} {L : Nat} {x x2 x3 : Value} {ys : Array Value} (h : ARel f L #[x, x2, x3] ys) : ∃ y y2 y3, ys = #[y, y2, y3] ∧ VRel f L x y ∧ VRel f L x2 y2 ∧ VRel f L x3 y3 := by
  obtain ⟨l⟩ := ys
  match l, h with
  | [y, y2, y3], h => exact ⟨y, y2, y3, rfl, by simpa using h.2 0, by simpa using h.2 1, by simpa using h.2 2⟩
  | [], h => simp [ARel] at h
  | [_], h => simp [ARel] at h
  | [_, _], h => simp [ARel] at h
  | _ :: _ :: _ :: _ :: _, h => simp [ARel] at h
theorem plain_pair {f : Emb} {L : Nat} (a b : Int) : VRel f L (.tuple #[.int .u64 a, .int .u64 b]) (.tuple #[.int .u64 a, .int .u64 b]) := by
  refine .tuple _ _ rfl fun i => ?_
  match i with
  | 0 => exact .int _ _
  | 1 => exact .int _ _
  | i + 2 => simp [Array.getD]; exact .junk _

theorem sound_range {P : Program} {f : Emb} {h : AH} {w : World} (hs : Sim P f h w) {t : TypeId} {x x' : Value} (hx : VRel f h.length x x') {r : Value} {h1 : AH} (ha : amRange P h t x = some (r, h1)) :
    ∃ f1 r' w1, (Instr.range t x').run P w = .ok r' w1 ∧ Step P f h w f1 h1 w1 ∧ VRel f1 h1.length r r' := by
  unfold amRange at ha
  split at ha
  · rename_i k e hu
    cases ha
    have : x' = .map none := plain_inv rfl hx
    subst this
    have st := Step.alloc hs (.miter none 0 #[] 0) (.mapIter none 0 #[] 0) ⟨w.heap.size, 0, 0, 0, 0⟩ rfl ⟨rfl, none, rfl, trivial⟩
    refine ⟨_, .pointer (some ⟨w.heap.size, 0, none⟩), _, ?_, st, .ptr _ _ _ _ (by simp) (by rw [upd_eq]) (by rw [upd_eq])⟩
    simp only [Instr.range, Sem.run_bind, run_underlying hu, Result.andThen_ok, Sem.run_pure, run_newObj]
    rfl
  · rename_i k e b hu
    obtain ⟨rfl, hbL⟩ := hx.map_inv
    split at ha
    case h_2 => cases ha
    rename_i k' es clock hb
    cases ha
    obtain ⟨es', g1, _⟩ := hs.mapRel hb
    have st := Step.alloc hs (.miter (some b) clock #[] clock) (.mapIter (some (f b).blk) clock #[] clock) ⟨w.heap.size, 0, 0, 0, 0⟩ rfl ⟨rfl, some (f b).blk, rfl, hbL, rfl⟩
    refine ⟨_, .pointer (some ⟨w.heap.size, 0, none⟩), _, ?_, st, .ptr _ _ _ _ (by simp) (by rw [upd_eq]) (by rw [upd_eq])⟩
    simp only [Instr.range, Sem.run_bind, run_underlying hu, Result.andThen_ok, Sem.run_pure, run_getObj_map g1, run_newObj]
    rfl
  · cases ha

theorem Sim.iterRel {P : Program} {f : Emb} {h : AH} {w : World} (hs : Sim P f h w) {r m : Nat} {since c0 : Nat} {seen : Array Nat} (hr : h[r]? = some (.miter (some m) since seen c0)) :
    w.heap[(f r).blk]? = some (.mapIter (some (f m).blk) since seen c0) ∧ m < h.length ∧ (f r).off = 0 := by
  obtain ⟨o', h1, h0, m', rfl, h2⟩ := hs.obj r _ hr rfl
  cases m' with
  | none => exact h2.elim
  | some q => obtain ⟨h2, rfl⟩ := h2; exact ⟨h1, h2, h0⟩

theorem left_rel {f : Emb} {L : Nat} {es es' : Array MapEntry} (hsz : es.size = es'.size) (hrel : ∀ (i : Nat) (e : MapEntry), es[i]? = some e → ∃ e' : MapEntry, es'[i]? = some e' ∧ EntryRel f L e e') (seen : Array Nat) {e' : MapEntry} (he : e' ∈ (leftOf es' seen).toList) :
    ∃ e ∈ (leftOf es seen).toList, EntryRel f L e e' := by
  simp only [leftOf, Array.mem_toList_iff, Array.mem_filter] at he ⊢
  obtain ⟨h1, h2⟩ := he
  obtain ⟨i, hi, rfl⟩ := Array.mem_iff_getElem.1 h1
  have hi2 : i < es.size := by omega
  obtain ⟨e'', k1, k2⟩ := hrel i es[i] (by simp [hi2])
  rw [Array.getElem?_eq_getElem hi] at k1
  cases k1
  exact ⟨es[i], ⟨by simp, by rw [← k2.2.1]; exact h2⟩, k2⟩

theorem left_empty {f : Emb} {L : Nat} {es es' : Array MapEntry} (hsz : es.size = es'.size) (hrel : ∀ (i : Nat) (e : MapEntry), es[i]? = some e → ∃ e' : MapEntry, es'[i]? = some e' ∧ EntryRel f L e e') (seen : Array Nat) (h0 : (leftOf es' seen).size = 0) : (leftOf es seen).size = 0 := by
  have h1 : leftOf es' seen = #[] := Array.eq_empty_of_size_eq_zero h0
  have : leftOf es seen = #[] := by
    unfold leftOf at h1 ⊢
    rw [Array.filter_eq_empty_iff] at h1 ⊢
    intro e he
    obtain ⟨i, hi, rfl⟩ := Array.mem_iff_getElem.1 he
    obtain ⟨e'', k1, k2⟩ := hrel i es[i] (by simp [hi])
    rw [← k2.2.1]
    exact h1 e'' (Array.mem_of_getElem? k1)
  rw [this]; rfl

theorem sound_next {P : Program} {f : Emb} {h : AH} {w : World} (hs : Sim P f h w) {it it' : Value} (hit : VRel f h.length it it') {ty : TypeId} {r : ARes} (ha : amNext h it = some r) :
    ResOk P f h w r ((do pure (.value (← Instr.next it' false ty)) : Sem Next).run P w) := by
  have over : ∀ L, VRel f L (.tuple #[.bool false]) (.tuple #[.bool false]) := fun L => .tuple _ _ rfl fun i => by
    match i with
    | 0 => exact .bool _
    | i + 1 => simp [Array.getD]; exact .junk _
  unfold amNext at ha
  split at ha
  case h_2 => cases ha
  rename_i r0
  obtain ⟨rfl, hrL⟩ := hit.ptr_inv
  split at ha
  · rename_i s1 s2 s3 hr
    cases ha
    obtain ⟨o', h1, h0, m', rfl, h2⟩ := hs.obj r0 _ hr rfl
    cases m' with
    | some q => exact h2.elim
    | none =>
      refine ⟨f, .tuple #[.bool false], w, ?_, Step.refl hs, over _⟩
      have hg : (getObj (f r0).blk).run P w = .ok (.mapIter none s1 s2 s3) w := by simp only [getObj, Sem.run, h1]
      simp only [h0, Nat.add_zero, Instr.next, Sem.run_bind, hg, Result.andThen_ok, Sem.run_pure]
  · rename_i m since seen c0 hr
    obtain ⟨g1, g2, g0⟩ := hs.iterRel hr
    split at ha
    case h_2 => cases ha
    rename_i k es clock hb
    split at ha
    case isFalse => cases ha
    rename_i hcond
    cases ha
    simp only [Bool.and_eq_true, decide_eq_true_eq] at hcond
    obtain ⟨hold, hsc⟩ := hcond
    obtain ⟨es', q1, q2, q3, q4, q5, q6⟩ := hs.mapRel hb
    have hold' : ∀ x ∈ es'.toList, x.born < since := by
      intro x hx
      have : x.born ∈ es.toList.map (·.born) := by rw [q6]; exact List.mem_map_of_mem hx
      obtain ⟨y, hy, hy2⟩ := List.mem_map.1 this
      rw [Array.all_eq_true'] at hold
      have := hold y (by simpa using hy)
      rw [← hy2]; simpa using this
    rcases run_next_at (P := P) w ty (f r0).blk (f m).blk since c0 seen es' clock g1 q1 hold' hsc with ⟨h1, h2⟩ | ⟨e', he', w1, hw1, h2⟩
    · refine ⟨f, .tuple #[.bool false], .tuple #[.bool false], h, w, ?_, .inl ⟨left_empty q2 q3 seen h1, rfl, rfl⟩, Step.refl hs, over _⟩
      rw [g0, Nat.add_zero, Sem.run_bind, h2]; rfl
    · obtain ⟨e, he, hre⟩ := left_rel q2 q3 seen he'
      have hlt : (f r0).blk < w1.heap.size := by rcases hw1 with rfl | rfl <;> exact (Array.getElem?_eq_some_iff.1 g1).1
      have hs1 : Sim P f h w1 := by rcases hw1 with rfl | rfl; exact hs; exact hs.congr rfl
      have hst0 : Step P f h w f h w1 := by rcases hw1 with rfl | rfl; exact Step.refl hs; exact Step.drew hs
      have g1' : w1.heap[(f r0).blk]? = some (.mapIter (some (f m).blk) since seen c0) := by rcases hw1 with rfl | rfl <;> exact g1
      have st := Step.write (o1 := .miter (some m) since (seen.push e'.born) clock) (o1' := .mapIter (some (f m).blk) since (seen.push e'.born) clock) (w1 := ChangeMaps.setBlock w1 (f r0).blk (.mapIter (some (f m).blk) since (seen.push e'.born) clock)) hs1 hr rfl rfl trivial
        (by simp [ChangeMaps.setBlock, hlt]) ⟨g0, some (f m).blk, rfl, g2, rfl⟩ (fun r hr => by simp only [ChangeMaps.setBlock, Array.getElem?_setIfInBounds_ne hr.symm]) rfl rfl rfl (by simp [ChangeMaps.setBlock])
      refine ⟨f, .tuple #[.bool true, e.key, e.val], .tuple #[.bool true, e'.key, e'.val], _, _, by rw [g0, Nat.add_zero, Sem.run_bind, h2]; rfl, .inr ⟨e, he, rfl, rfl⟩, ?_, ?_⟩
      · rw [← hre.2.1]; exact hst0.trans st
      · have hk : keyed P k e.key = true := q4.keys e (by simp only [leftOf, Array.mem_toList_iff, Array.mem_filter] at he; simpa using he.1)
        refine .tuple _ _ rfl fun i => ?_
        match i with
        | 0 => exact .bool _
        | 1 => show VRel f _ e.key e'.key; rw [hre.1]; exact plain_refl (keyed_plain hk)
        | 2 => show VRel f _ e.val e'.val; exact hre.2.2.mono (by simp) (.refl _ _)
        | i + 3 => simp [Array.getD]; exact .junk _
  · cases ha

theorem sound_entryOf {P : Program} {f : Emb} {h : AH} {w : World} (hs : Sim P f h w) {it it' : Value} (hit : VRel f h.length it it') {r : Value} (ha : amEntryOf h it = some r) :
    ∃ r', (Instr.entry it').run P w = .ok r' w ∧ VRel f h.length r r' := by
  unfold amEntryOf at ha
  split at ha
  case h_2 => cases ha
  rename_i r0
  obtain ⟨rfl, hrL⟩ := hit.ptr_inv
  split at ha
  case h_2 => cases ha
  rename_i m s1 seen stepped hr
  obtain ⟨g1, g2, g0⟩ := hs.iterRel hr
  split at ha
  case h_2 => cases ha
  rename_i k es clock b hb hback
  split at ha
  case isFalse => cases ha
  rename_i hc
  subst hc
  simp only [Option.map_eq_some_iff] at ha
  obtain ⟨e, he, rfl⟩ := ha
  obtain ⟨es', q1, q2, q3, q4, q5, q6⟩ := hs.mapRel hb
  have hmem : e ∈ es := Array.mem_of_find?_eq_some he
  have hbe : e.born = b := by have := Array.find?_some he; simpa using this
  obtain ⟨i, hi, hie⟩ := Array.mem_iff_getElem.1 hmem
  obtain ⟨e', k1, k2⟩ := q3 i e (by rw [Array.getElem?_eq_getElem hi, hie])
  have hseen : seen = seen.pop.push e'.born := by
    have h1 : seen.size ≠ 0 := by
      intro h0
      have : seen = #[] := Array.eq_empty_of_size_eq_zero h0
      rw [this] at hback; simp at hback
    have h2 := Array.back?_eq_getElem? (xs := seen)
    rw [hback] at h2
    have h3 : seen.size - 1 < seen.size := by omega
    rw [Array.getElem?_eq_getElem h3] at h2
    rw [k2.2.1, hbe]
    apply Array.ext
    · simp; omega
    · intro j j1 j2
      rw [Array.getElem_push]
      split
      · simp
      · have : j = seen.size - 1 := by simp at *; omega
        subst this
        exact (Option.some.inj h2).symm
  have hn : (es'.toList.map (·.born)).Nodup := by rw [← q6]; exact q4.born
  have hk : keyed P k e.key = true := q4.keys e (by simpa using hmem)
  refine ⟨.tuple #[e'.key, e'.val], ?_, .tuple _ _ rfl fun i => ?_⟩
  · rw [g0, Nat.add_zero]
    rw [hseen] at g1
    exact run_entry_at w (f r0).blk (f m).blk s1 seen.pop es' clock e' g1 q1 (by have := Array.mem_of_getElem? k1; simpa using this) hn
  · match i with
    | 0 => show VRel f _ e.key e'.key; rw [k2.1]; exact plain_refl (keyed_plain hk)
    | 1 => exact k2.2.2
    | i + 2 => simp [Array.getD]; exact .junk _

theorem arel_plain {f : Emb} {L : Nat} {xs ys : Array Value} (h : ARel f L xs ys) (hp : xs.all plainB = true) : ys = xs := by
  apply Array.ext h.1.symm
  intro i h1 h2
  have hr := h.2 i
  rw [Array.all_eq_true] at hp
  have := plain_inv (f := f) (L := L) (v := xs.getD i Am.junk) (v' := ys.getD i Am.junk) (by simpa [Array.getD, h2] using hp i h2) hr
  simpa [Array.getD, h1, h2] using this

theorem sound_builtin {P : Program} {f : Emb} {h : AH} {w : World} (hs : Sim P f h w) (b : Builtin) (ts : Array TypeId) (ty : TypeId) (cs : Array Bool) {args args' : Array Value} (hr : ARel f h.length args args') {r : ARes}
    (ha : abuiltin P h b ts ty args = some r) : ResOk P f h w r ((builtin b ts ty cs args').run P w) := by
  unfold abuiltin at ha
  split at ha
  · rename_i t x ht hx
    obtain ⟨v, h1, rfl⟩ := aval_some ha
    cases arr1 hx; cases arr1 ht
    obtain ⟨y, rfl, hy⟩ := arel_one hr
    obtain ⟨r', g1, g2⟩ := sound_len hs (ts := #[t]) (ty := ty) rfl hy h1
    exact ⟨f, r', w, by simp only [builtin, Sem.run_bind, g1, Result.andThen_ok, Sem.run_pure], Step.refl hs, g2⟩
  · rename_i t u s x ht hx
    obtain ⟨v, h2, h1, rfl⟩ := avalh_some ha
    cases arr2 hx; cases arr2 ht
    obtain ⟨y, y2, rfl, hy, hy2⟩ := arel_two hr
    obtain ⟨f1, r', w1, g1, g2, g3⟩ := sound_append hs (ts := #[t, u]) (ty := ty) rfl rfl hy hy2 h1
    exact ⟨f1, r', w1, by simp only [builtin, Sem.run_bind, g1, Result.andThen_ok, Sem.run_pure], g2, g3⟩
  · rename_i t u d s ht hx
    obtain ⟨v, h2, h1, rfl⟩ := avalh_some ha
    cases arr2 hx; cases arr2 ht
    obtain ⟨y, y2, rfl, hy, hy2⟩ := arel_two hr
    obtain ⟨r', w1, g1, g2, g3⟩ := sound_copy hs (ts := #[t, u]) (ty := ty) rfl hy hy2 h1
    exact ⟨f, r', w1, by simp only [builtin, Sem.run_bind, g1, Result.andThen_ok, Sem.run_pure], g2, g3⟩
  · rename_i t u d s ht hx
    obtain ⟨v, h2, h1, rfl⟩ := avalh_some ha
    cases arr2 hx; cases arr2 ht
    obtain ⟨y, y2, rfl, hy, hy2⟩ := arel_two hr
    obtain ⟨r', w1, g1, g2, g3⟩ := sound_delete hs (ts := #[t, u]) (ty := ty) rfl hy hy2 h1
    exact ⟨f, r', w1, by simp only [builtin, Sem.run_bind, g1, Result.andThen_ok, Sem.run_pure], g2, g3⟩
  · split at ha
    · rename_i hp
      obtain ⟨v, h1, rfl⟩ := aval_some ha
      obtain ⟨h2, h3⟩ := plainOut_some h1
      cases arel_plain hr hp
      exact ⟨f, v, w, by simp only [builtin, Sem.run_bind, pureRun_run h2 w, Result.andThen_ok, Sem.run_pure], Step.refl hs, plain_refl h3⟩
    · cases ha
  · split at ha
    · rename_i hp
      obtain ⟨v, h1, rfl⟩ := aval_some ha
      obtain ⟨h2, h3⟩ := plainOut_some h1
      cases arel_plain hr hp
      exact ⟨f, v, w, by simp only [builtin, Sem.run_bind, pureRun_run h2 w, Result.andThen_ok, Sem.run_pure], Step.refl hs, plain_refl h3⟩
    · cases ha
  · cases ha

theorem sound_aop {P : Program} {f : Emb} {h : AH} {w : World} (hs : Sim P f h w) {ρ ρ' : Operand → Value} (hr : ∀ x, VRel f h.length (ρ x) (ρ' x)) (o : Oper) {r : ARes} (ha : aop P ρ h o = some r) :
    ResOk P f h w r ((execOp ρ' o).run P w) := by
  obtain ⟨dst, op, type, pos, after, guard⟩ := o
  unfold aop at ha
  cases op <;> simp only at ha <;> (try (simp only [amore] at ha; cases ha; done)) <;> simp only [execOp]
  case move x => cases ha; exact ⟨f, _, w, rfl, Step.refl hs, hr x⟩
  case assign x => cases ha; exact ⟨f, _, w, rfl, Step.refl hs, hr x⟩
  case pick c a b =>
    split at ha
    · rename_i t ht
      cases ha
      have hc := hr c
      rw [ht] at hc
      refine ⟨f, (if t = true then ρ' a else ρ' b), w, by simp only [Sem.run_bind, hc.bool_inv, asBool, Sem.run_pure, Result.andThen_ok], Step.refl hs, ?_⟩
      cases t
      · exact hr b
      · exact hr a
    · cases ha
  case alloc e =>
    obtain ⟨v, h2, h1, rfl⟩ := avalh_some ha
    obtain ⟨f1, r', w1, g1, g2, g3⟩ := sound_alloc hs e h1
    exact ⟨f1, r', w1, by simp only [Sem.run_bind, g1, Result.andThen_ok, Sem.run_pure], g2, g3⟩
  case box e x =>
    obtain ⟨v, h2, h1, rfl⟩ := avalh_some ha
    obtain ⟨f1, r', w1, g1, g2, g3⟩ := sound_box hs e (hr x) h1
    exact ⟨f1, r', w1, by simp only [Sem.run_bind, g1, Result.andThen_ok, Sem.run_pure], g2, g3⟩
  case build t ps =>
    obtain ⟨v, h1, rfl⟩ := aval_some ha
    obtain ⟨r', g1, g2⟩ := sound_build (P := P) w t (parts := ps.map fun (i, x) => (i, ρ x)) (parts' := ps.map fun (i, x) => (i, ρ' x)) (by simpa using prel_map hr ps.toList) (by simpa using h1)
    exact ⟨f, r', w, by simp only [Sem.run_bind, g1, Result.andThen_ok, Sem.run_pure], Step.refl hs, g2⟩
  case buildSlice t n ps =>
    obtain ⟨v, h2, h1, rfl⟩ := avalh_some ha
    obtain ⟨f1, r', w1, g1, g2, g3⟩ := sound_buildSlice hs t n (parts := ps.map fun (i, x) => (i, ρ x)) (parts' := ps.map fun (i, x) => (i, ρ' x)) (by simpa using prel_map hr ps.toList) (by simpa using h1)
    exact ⟨f1, r', w1, by simp only [Sem.run_bind, g1, Result.andThen_ok, Sem.run_pure], g2, g3⟩
  case load t a =>
    obtain ⟨v, h1, rfl⟩ := aval_some ha
    obtain ⟨r', g1, g2⟩ := sound_load hs (hr a) h1
    exact ⟨f, r', w, by simp only [Sem.run_bind, g1, Result.andThen_ok, Sem.run_pure], Step.refl hs, g2⟩
  case store t a x =>
    obtain ⟨h2, h1, rfl⟩ := askip_some ha
    obtain ⟨w1, g1, g2⟩ := sound_store hs (hr a) (hr x) h1
    exact ⟨f, w1, by simp only [Sem.run_bind, g1, Result.andThen_ok, Sem.run_pure], g2⟩
  case nilCheck x =>
    obtain ⟨v, h1, rfl⟩ := aval_some ha
    obtain ⟨r', g1, g2⟩ := sound_nilCheck (P := P) w ρ' ⟨dst, .nilCheck x, type, pos, after, guard⟩ x rfl (hr x) h1
    exact ⟨f, r', w, by simpa only [execOp] using g1, Step.refl hs, g2⟩
  case binOp op t x y u =>
    obtain ⟨v, h1, rfl⟩ := aval_some ha
    obtain ⟨r', g1, g2⟩ := sound_binOp (P := P) w op t x y (hr x) (hr y) h1
    exact ⟨f, r', w, by rw [Sem.run_bind, g1]; rfl, Step.refl hs, g2⟩
  case unOp op t x =>
    obtain ⟨v, h1, rfl⟩ := aval_some ha
    obtain ⟨r', g1, g2⟩ := sound_unOp (P := P) w op (hr x) h1
    exact ⟨f, r', w, by simp only [Sem.run_bind, g1, Result.andThen_ok, Sem.run_pure], Step.refl hs, g2⟩
  case convert s d x =>
    obtain ⟨v, h2, h1, rfl⟩ := avalh_some ha
    obtain ⟨f1, r', w1, g1, g2, g3⟩ := sound_convert hs (hr x) h1
    exact ⟨f1, r', w1, by simp only [Sem.run_bind, g1, Result.andThen_ok, Sem.run_pure], g2, g3⟩
  case sliceToArrayPointer t x =>
    obtain ⟨v, h1, rfl⟩ := aval_some ha
    obtain ⟨r', g1, g2⟩ := sound_arrayPtr (P := P) w (hr x) h1
    exact ⟨f, r', w, by simp only [Sem.run_bind, g1, Result.andThen_ok, Sem.run_pure], Step.refl hs, g2⟩
  case makeInterface t x =>
    obtain ⟨v, h1, rfl⟩ := aval_some ha
    obtain ⟨r', g1, g2⟩ := sound_makeIface (P := P) w (hr x) h1
    exact ⟨f, r', w, by simp only [Sem.run_bind, g1, Result.andThen_ok, Sem.run_pure], Step.refl hs, g2⟩
  case makeFunc fn xs cs =>
    obtain ⟨v, h1, rfl⟩ := aval_some ha
    obtain ⟨r', g1, g2⟩ := sound_makeFunc (P := P) w (arel_map hr xs) (arel_map hr cs) h1
    exact ⟨f, r', w, by simp only [Sem.run_bind, g1, Result.andThen_ok, Sem.run_pure], Step.refl hs, g2⟩
  case makeMap t r0 =>
    cases r0 with
    | some x => simp only [amore] at ha; cases ha
    | none =>
      obtain ⟨v, h2, h1, rfl⟩ := avalh_some ha
      unfold amMake at h1
      split at h1
      case h_2 => cases h1
      rename_i k el hu
      split at h1
      case isFalse => cases h1
      rename_i hty
      cases h1
      have := Step.alloc hs (.map k #[] 0) (.map #[] 0) ⟨w.heap.size, 0, 0, 0, 0⟩ rfl ⟨#[], rfl, rfl, fun i e he => by simp at he⟩ ⟨hty, by simp, by simp, by simp, by simp⟩
      exact ⟨_, .map (some w.heap.size), _, by simp only [Option.map_none, Instr.makeMap, Sem.run_bind, Sem.run_pure, Result.andThen_ok, run_newObj]; rfl, this, .map _ _ (by simp) (by rw [upd_eq])⟩
  case makeSlice t l c =>
    obtain ⟨v, h2, h1, rfl⟩ := avalh_some ha
    obtain ⟨f1, r', w1, g1, g2, g3⟩ := sound_makeSlice hs t (hr l) (hr c) h1
    exact ⟨f1, r', w1, by simp only [Sem.run_bind, g1, Result.andThen_ok, Sem.run_pure], g2, g3⟩
  case slice t x lo hi mx =>
    cases mx with
    | some x => simp only [amore] at ha; cases ha
    | none =>
      obtain ⟨v, h1, rfl⟩ := aval_some ha
      obtain ⟨r', g1, g2⟩ := sound_slice hs (hr x) (optrel_map hr lo) (optrel_map hr hi) h1
      exact ⟨f, r', w, by simp only [Option.map_none, Sem.run_bind, g1, Result.andThen_ok, Sem.run_pure], Step.refl hs, g2⟩
  case fieldAddr t x k =>
    obtain ⟨v, h1, rfl⟩ := aval_some ha
    obtain ⟨r', g1, g2⟩ := sound_fieldAddr (P := P) w (hr x) h1
    exact ⟨f, r', w, by simp only [Sem.run_bind, g1, Result.andThen_ok, Sem.run_pure], Step.refl hs, g2⟩
  case field t x k =>
    obtain ⟨v, h1, rfl⟩ := aval_some ha
    obtain ⟨r', g1, g2⟩ := sound_field (P := P) w (hr x) h1
    exact ⟨f, r', w, by simp only [Sem.run_bind, g1, Result.andThen_ok, Sem.run_pure], Step.refl hs, g2⟩
  case indexAddr t x i =>
    obtain ⟨v, h1, rfl⟩ := aval_some ha
    obtain ⟨r', g1, g2⟩ := sound_indexAddr (P := P) w (hr x) (hr i) h1
    exact ⟨f, r', w, by simp only [Sem.run_bind, g1, Result.andThen_ok, Sem.run_pure], Step.refl hs, g2⟩
  case index t x i =>
    obtain ⟨v, h1, rfl⟩ := aval_some ha
    obtain ⟨r', g1, g2⟩ := sound_index (P := P) w (hr x) (hr i) h1
    exact ⟨f, r', w, by simp only [Sem.run_bind, g1, Result.andThen_ok, Sem.run_pure], Step.refl hs, g2⟩
  case extract x k =>
    obtain ⟨v, h1, rfl⟩ := aval_some ha
    obtain ⟨r', g1, g2⟩ := sound_extract (P := P) w (hr x) h1
    exact ⟨f, r', w, by simp only [Sem.run_bind, g1, Result.andThen_ok, Sem.run_pure], Step.refl hs, g2⟩
  case lookup t x i ok =>
    obtain ⟨v, h1, rfl⟩ := aval_some ha
    obtain ⟨r', g1, g2⟩ := sound_lookup hs (hr x) (hr i) h1
    exact ⟨f, r', w, by simp only [Sem.run_bind, g1, Result.andThen_ok, Sem.run_pure], Step.refl hs, g2⟩
  case mapUpdate t m k x =>
    obtain ⟨h2, h1, rfl⟩ := askip_some ha
    obtain ⟨w1, g1, g2⟩ := sound_update hs (hr m) (hr k) (hr x) h1
    exact ⟨f, w1, by simp only [Sem.run_bind, g1, Result.andThen_ok, Sem.run_pure], g2⟩
  case insert t m k x =>
    obtain ⟨h2, h1, rfl⟩ := askip_some ha
    obtain ⟨w1, g1, g2⟩ := sound_update hs (hr m) (hr k) (hr x) h1
    exact ⟨f, w1, by simp only [Sem.run_bind, g1, Result.andThen_ok, Sem.run_pure], g2⟩
  case mapEntry t m k =>
    obtain ⟨v, h2, h1, rfl⟩ := avalh_some ha
    obtain ⟨r', w1, g1, g2, g3⟩ := sound_entryAt hs (hr m) (hr k) h1
    exact ⟨f, r', w1, by simp only [Sem.run_bind, g1, Result.andThen_ok, Sem.run_pure], g2, g3⟩
  case entryStore t m s x =>
    obtain ⟨h2, h1, rfl⟩ := askip_some ha
    obtain ⟨w1, g1, g2⟩ := sound_entryStore (t := t) hs (hr m) (hr s) (hr x) h1
    exact ⟨f, w1, by simp only [Sem.run_bind, g1, Result.andThen_ok, Sem.run_pure], g2⟩
  case range t x =>
    obtain ⟨v, h2, h1, rfl⟩ := avalh_some ha
    obtain ⟨f1, r', w1, g1, g2, g3⟩ := sound_range hs (hr x) h1
    exact ⟨f1, r', w1, by simp only [Sem.run_bind, g1, Result.andThen_ok, Sem.run_pure], g2, g3⟩
  case next it str =>
    cases str with
    | true => simp only [amore] at ha; cases ha
    | false => exact sound_next hs (hr it) ha
  case entry it =>
    obtain ⟨v, h1, rfl⟩ := aval_some ha
    obtain ⟨r', g1, g2⟩ := sound_entryOf hs (hr it) h1
    exact ⟨f, r', w, by simp only [Sem.run_bind, g1, Result.andThen_ok, Sem.run_pure], Step.refl hs, g2⟩
  case call c =>
    split at ha
    · rename_i fo hfo
      unfold acall at ha
      split at ha
      · rename_i F first captured hfv
        split at ha
        · rename_i hb
          cases ha
          have hv := hr fo
          rw [hfv] at hv
          generalize hv' : ρ' fo = v' at hv
          cases hv with
          | func fn xs ys cs ds hfn h1 h2 h3 h4 =>
            refine ⟨_, ?_, arel_append (arel_append ⟨h1, h2⟩ (arel_map hr c.args)) ⟨h3, h4⟩⟩
            simp only [resolve, hfo, hv', Deferred.ofValue, Sem.run_bind, Sem.run_pure, Result.andThen_ok, invoke, run_callFunc hb]
        · unfold aextern at ha
          split at ha
          · rename_i x y hxy
            split at ha
            · rename_i hc
              obtain ⟨v, h1, rfl⟩ := aval_some ha
              have hv := hr fo
              rw [hfv] at hv
              generalize hv' : ρ' fo = v' at hv
              cases hv with
              | func fn xs ys cs ds hfn g1 g2 g3 g4 =>
                have hargs := arel_append (arel_append ⟨g1, g2⟩ (arel_map hr c.args)) ⟨g3, g4⟩
                rw [arr2 hxy] at hargs
                obtain ⟨x', y', e, hx, hy⟩ := arel_two hargs
                unfold acompare at h1
                split at h1
                · rename_i hsl
                  split at h1
                  · rename_i n cc m dd hc1 hc2
                    split at h1
                    · rename_i hby
                      cases h1
                      refine ⟨f, .int .i64 (cmpV cc dd), w, ?_, Step.refl hs, .int _ _⟩
                      have b1 := sound_bytes hs hx hsl.1 hc1 hby.1
                      have b2 := sound_bytes hs hy hsl.2 hc2 hby.2
                      simp only [resolve, hfo, hv', Deferred.ofValue, Sem.run_bind, Sem.run_pure, Result.andThen_ok, invoke]
                      rw [e, isCompare_run hc]
                      rw [compare_two]
                      simp only [Sem.run_bind, b1, b2, Result.andThen_ok, Sem.run_pure]
                      rfl
                    · cases h1
                  · cases h1
                · cases h1
            · cases ha
          · rename_i x y c0 hxy
            have hv := hr fo
            rw [hfv] at hv
            generalize hv' : ρ' fo = v' at hv
            cases hv with
            | func fn xs ys cs ds hfn g1 g2 g3 g4 =>
              have hargs := arel_append (arel_append ⟨g1, g2⟩ (arel_map hr c.args)) ⟨g3, g4⟩
              rw [arr3 hxy] at hargs
              obtain ⟨x', y', c', e, hx, hy, hc⟩ := arel_three hargs
              have fin : ∀ add : Bool, isName P F (if add then "math/bits.Add64" else "math/bits.Sub64") = true → aval h (acarry add x y c0) = some r → ResOk P f h w r ((do let d ← resolve ρ' c type; invoke d.target d.args : Sem Next).run P w) := by
                intro add hn ha
                obtain ⟨v, h1, rfl⟩ := aval_some ha
                have hpl : x' = x ∧ y' = y ∧ c' = c0 := by
                  unfold acarry at h1
                  split at h1
                  · exact ⟨hx.int_inv, hy.int_inv, hc.int_inv⟩
                  · cases h1
                obtain ⟨rfl, rfl, rfl⟩ := hpl
                obtain ⟨k1, a, b, rfl⟩ := carry_run hn h1 w
                refine ⟨f, _, w, ?_, Step.refl hs, plain_pair a b⟩
                simp only [resolve, hfo, hv', Deferred.ofValue, Sem.run_bind, Sem.run_pure, Result.andThen_ok, invoke]
                rw [e, k1]
              split at ha
              · rename_i hn; exact fin true hn ha
              · split at ha
                · rename_i hn; exact fin false hn ha
                · cases ha
          · cases ha
      · cases ha
    · rename_i b hb
      have := sound_builtin hs b c.argTypes type (c.args.map fun | .const _ => true | _ => false) (arel_map hr c.args) ha
      have e : (do let d ← resolve ρ' c type; invoke d.target d.args : Sem Next).run P w = (builtin b c.argTypes type (c.args.map fun | .const _ => true | _ => false) (c.args.map ρ')).run P w := by
        simp only [resolve, hb, Sem.run_bind, Sem.run_pure, Result.andThen_ok, invoke]
        rfl
      rw [e]
      exact this
    · cases ha

end Go.Am
