import Derived.Test.YtibkpodkogclbaaAm9
import Derived.Lib.BytesEntry
import Derived.Laws.Externs
set_option linter.unusedVariables false
set_option linter.unusedSimpArgs false
/- One operation. -/
namespace Go.Am
open Go

inductive ARes where
  | val (v : Value) (h : AH)
  | skip (h : AH)
  | enter (F : FuncId) (args : Array Value)

def hasBody (P : Program) (F : FuncId) : Bool :=
  match P.funcs[F]? with
  | some fn => fn.name != "runtime.NumGoroutine" && fn.body.isSome
  | none => false

def aval (h : AH) : Option Value → Option ARes
  | some v => some (.val v h)
  | none => none

def avalh : Option (Value × AH) → Option ARes
  | some (v, h) => some (.val v h)
  | none => none

def askip : Option AH → Option ARes
  | some h => some (.skip h)
  | none => none

/-- the comparison of bytes, which has no body -/
def isCompare (P : Program) (F : FuncId) : Bool :=
  match P.funcs[F]? with
  | some fn => fn.name == "internal/bytealg.Compare" && fn.origin == "" && fn.body.isNone
  | none => false

def isByte : Value → Bool
  | .int .u8 _ => true
  | _ => false
def byteOf : Value → UInt8
  | .int _ n => n.toNat.toUInt8
  | _ => 0
def bytesV (c : Array Value) : ByteArray := ⟨c.map byteOf⟩
def cmpV (c d : Array Value) : Int := Extern.BytealgCompare.cmp (bytesV c) (bytesV d)
def isSlice : Value → Bool
  | .slice .. => true
  | _ => false

def acompare (h : AH) (x y : Value) : Option Value :=
  if isSlice x = true ∧ isSlice y = true then
    match asource h 1 x, asource h 1 y with
    | some (_, c), some (_, d) => if c.all isByte = true ∧ d.all isByte = true then some (.int .i64 (cmpV c d)) else none
    | _, _ => none
  else none

def aextern (P : Program) (h : AH) (F : FuncId) (args : Array Value) : Option ARes :=
  match args.toList with
  | [x, y] => if isCompare P F then aval h (acompare h x y) else none
  | _ => none

def acall (P : Program) (h : AH) (fv : Value) (args : Array Value) : Option ARes :=
  match fv with
  | .func (.func F) first captured => if hasBody P F then some (.enter F (first ++ args ++ captured)) else aextern P h F (first ++ args ++ captured)
  | _ => none

def abuiltin (P : Program) (h : AH) (b : Builtin) (ts : Array TypeId) (ty : TypeId) (args : Array Value) : Option ARes :=
  match b, ts.toList, args.toList with
  | .len, [t], [x] => aval h (alen P h t x)
  | .append, [t, u], [s, x] => avalh (aappend P h t u s x)
  | .copy, [t, _], [d, s] => avalh (acopy P h t d s)
  | .min, _, _ => if args.all plainB then aval h (plainOut (pureRun P (Builtin.min_ ts ty args))) else none
  | .max, _, _ => if args.all plainB then aval h (plainOut (pureRun P (Builtin.max_ ts ty args))) else none
  | _, _, _ => none

/-- what is not needed for most -/
def amore (P : Program) (ρ : Operand → Value) (h : AH) (o : Oper) : Option ARes := none

def aop (P : Program) (ρ : Operand → Value) (h : AH) (o : Oper) : Option ARes :=
  match o.op with
  | .move x => some (.val (ρ x) h)
  | .assign x => some (.val (ρ x) h)
  | .pick c a b => match ρ c with
    | .bool t => some (.val (if t then ρ a else ρ b) h)
    | _ => none
  | .alloc e => avalh (aalloc P h e)
  | .box _ x => avalh (abox h (ρ x))
  | .build t ps => aval h (abuild P t (ps.toList.map fun (i, x) => (i, ρ x)))
  | .buildSlice t n ps => avalh (abuildSlice P h t n (ps.toList.map fun (i, x) => (i, ρ x)))
  | .load t a => aval h (aload P h t (ρ a))
  | .store t a x => askip (astore P h t (ρ a) (ρ x))
  | .nilCheck x => aval h (anilCheck (ρ x))
  | .binOp op t x y _ => aval h (abinOp P op t x y (ρ x) (ρ y))
  | .unOp op _ x => aval h (aunOp P op (ρ x))
  | .convert s d x => avalh (aconvert P h s d (ρ x))
  | .sliceToArrayPointer t x => aval h (aarrayPtr P t (ρ x))
  | .makeInterface t x => aval h (amakeIface P t (ρ x))
  | .makeFunc fn xs cs => aval h (amakeFunc fn (xs.map ρ) (cs.map ρ))
  | .makeMap _ none => some (.val (.map (some h.length)) (h ++ [.map #[] 0]))
  | .makeSlice t l c => avalh (amakeSlice P h t (ρ l) (ρ c))
  | .slice t x lo hi none => aval h (aslice P h t (ρ x) (lo.map ρ) (hi.map ρ))
  | .fieldAddr t x k => aval h (afieldAddr P t (ρ x) k)
  | .field t x k => aval h (afield P t (ρ x) k)
  | .indexAddr t x i => aval h (aindexAddr P t (ρ x) (ρ i))
  | .index t x i => aval h (aindex P t (ρ x) (ρ i))
  | .extract x k => aval h (aextract (ρ x) k)
  | .call c => match c.callee with
    | .value f => acall P h (ρ f) (c.args.map ρ)
    | .builtin b => abuiltin P h b c.argTypes o.type (c.args.map ρ)
    | _ => none
  | _ => amore P ρ h o

def ResOk (P : Program) (f : Nat → Img) (h : AH) (w : World) : ARes → Result Next → Prop
  | .val v h1, res => ∃ f1 v' w1, res = .ok (.value v') w1 ∧ Step P f h w f1 h1 w1 ∧ VRel f1 h1.length v v'
  | .skip h1, res => ∃ f1 w1, res = .ok .skip w1 ∧ Step P f h w f1 h1 w1
  | .enter F args, res => ∃ args', res = .ok (.enter F args') w ∧ ARel f h.length args args'

theorem aval_some {h : AH} {o : Option Value} {r : ARes} (ha : aval h o = some r) : ∃ v, o = some v ∧ r = .val v h := by
  cases o <;> simp [aval] at ha; exact ⟨_, rfl, ha.symm⟩
theorem avalh_some {o : Option (Value × AH)} {r : ARes} (ha : avalh o = some r) : ∃ v h, o = some (v, h) ∧ r = .val v h := by
  cases o <;> simp [avalh] at ha; exact ⟨_, _, rfl, ha.symm⟩
theorem askip_some {o : Option AH} {r : ARes} (ha : askip o = some r) : ∃ h, o = some h ∧ r = .skip h := by
  cases o <;> simp [askip] at ha; exact ⟨_, rfl, ha.symm⟩

theorem prel_map {f : Nat → Img} {L : Nat} {ρ ρ' : Operand → Value} (hr : ∀ x, VRel f L (ρ x) (ρ' x)) (ps : List (Nat × Operand)) :
    PRel f L (ps.map fun (i, x) => (i, ρ x)) (ps.map fun (i, x) => (i, ρ' x)) := by
  induction ps with
  | nil => trivial
  | cons p r ih => exact ⟨rfl, hr _, ih⟩

theorem arel_map {f : Nat → Img} {L : Nat} {ρ ρ' : Operand → Value} (hr : ∀ x, VRel f L (ρ x) (ρ' x)) (xs : Array Operand) : ARel f L (xs.map ρ) (xs.map ρ') := by
  refine ⟨by simp, fun i => ?_⟩
  by_cases hi : i < xs.size
  · simp [Array.getD, hi]; exact hr _
  · rw [getD_ge i (by simpa using hi)]; exact .junk _

theorem arel_append {f : Nat → Img} {L : Nat} {A A' B B' : Array Value} (h : ARel f L A A') (k : ARel f L B B') : ARel f L (A ++ B) (A' ++ B') := by
  refine ⟨by simp [h.1, k.1], fun i => ?_⟩
  by_cases hi : i < A.size
  · rw [getD_append_left' _ _ _ hi, getD_append_left' _ _ _ (h.1 ▸ hi)]; exact h.2 i
  · rw [getD_append_right' _ _ _ (by omega), getD_append_right' _ _ _ (by have := h.1; omega), h.1]; exact k.2 _

theorem optrel_map {f : Nat → Img} {L : Nat} {ρ ρ' : Operand → Value} (hr : ∀ x, VRel f L (ρ x) (ρ' x)) (o : Option Operand) : OptRel f L (o.map ρ) (o.map ρ') := by
  cases o with
  | none => trivial
  | some x => exact hr x

theorem run_callFunc {P : Program} {F : FuncId} (h : hasBody P F = true) (args : Array Value) (w : World) : (callFunc F args).run P w = .ok (.enter F args) w := by
  unfold hasBody at h
  split at h
  · rename_i fn hf
    simp only [Bool.and_eq_true, bne_iff_ne, ne_eq] at h
    have h1 : (fn.name == "runtime.NumGoroutine") = false := by simpa using h.1
    have h2 : fn.body.isNone = false := by cases hb : fn.body <;> simp_all
    simp only [callFunc, Sem.run_bind, run_program, Result.andThen_ok, hf, h1, h2, Bool.false_eq_true, if_false, Sem.run_pure]
  · cases h

theorem isCompare_run {P : Program} {F : FuncId} (h : isCompare P F = true) (args : Array Value) (w : World) : (callFunc F args).run P w = ((Extern.BytealgCompare.compare args).run P w).andThen fun v w' => .ok (.value v) w' := by
  unfold isCompare at h
  split at h
  · rename_i fn hf
    simp only [Bool.and_eq_true, beq_iff_eq] at h
    obtain ⟨⟨h1, h2⟩, h3⟩ := h
    refine run_callFunc_extern hf (by rw [h1]; rfl) h3 ?_ ?_ args w
    · simp only [Extern.findNext, h1, h2]
      have e1 : Extern.allNextRows.lookup "internal/bytealg.Compare" = none := by kernel_rfl
      have e2 : Extern.allNextRows.lookup "" = none := by kernel_rfl
      rw [e1, e2]; rfl
    · simp only [Extern.find, h1, h2]
      have e1 : Extern.allGenericRows.lookup "internal/bytealg.Compare" = none := by kernel_rfl
      have e2 : Extern.allTypedRows.lookup "internal/bytealg.Compare" = none := by kernel_rfl
      have e3 : Extern.allRows.lookup "internal/bytealg.Compare" = some Extern.BytealgCompare.compare := by kernel_rfl
      rw [e1, e2, e3]; rfl
  · cases h

theorem bytesV_nil : bytesV #[] = .empty := by apply ByteArray.ext; simp [bytesV, ByteArray.empty, ByteArray.emptyWithCapacity]; rfl
theorem compare_two (a b : Value) : Extern.BytealgCompare.compare #[a, b] = (do pure (goInt (Extern.BytealgCompare.cmp (← Extern.Bytes.bytesOf a) (← Extern.Bytes.bytesOf b)))) := rfl

theorem sound_bytes {P : Program} {f : Nat → Img} {h : AH} {w : World} (hs : Sim P f h w) {x x' : Value} (hx : VRel f h.length x x') (hsl : isSlice x = true) {n : Nat} {c : Array Value} (ha : asource h 1 x = some (n, c)) (hb : c.all isByte = true) :
    (Extern.Bytes.bytesOf x').run P w = .ok (bytesV c) w := by
  unfold asource at ha
  split at ha
  · rename_i b o n' cap
    split at ha
    · rename_i hz
      simp only [Option.some.injEq, Prod.mk.injEq] at ha
      obtain ⟨rfl, rfl⟩ := ha
      subst hz
      rcases hx.slice_inv with ⟨c', rfl, _, _⟩ | ⟨_, _, a', rfl, _⟩ <;> (rw [bytesV_nil]; rfl)
    · rename_i hnz
      split at ha
      · rename_i c0 es rw hbk
        split at ha
        · rename_i hle
          simp only [Option.some.injEq, Prod.mk.injEq, Nat.mul_one] at ha hle
          obtain ⟨rfl, rfl⟩ := ha
          rcases hx.slice_inv with ⟨c', rfl, hbL, hc⟩ | ⟨h0, _, _, _, _⟩
          · obtain ⟨o', ho', cc, elem, fr, rfl, h1, h2, h3, h4, h5, h6⟩ := hs.obj b _ hbk rfl
            let xs := (List.range n').map fun j => match c0.getD (o + j) junk with | .int _ m => m | _ => 0
            have hcell : ∀ j x, xs[j]? = some x → w.cell? ((⟨(f b).blk, (f b).off + o, none⟩ : Addr).add j) = some (.int .u8 x) := by
              intro j x hj
              have hj' : j < n' := by have := (List.getElem?_eq_some_iff.1 hj).1; simpa [xs] using this
              have e : (⟨(f b).blk, (f b).off + o, none⟩ : Addr).add j = ⟨(f b).blk, (f b).off + (o + j), none⟩ := by unfold Addr.add; split <;> simp_all <;> omega
              rw [e]
              have hin : o + j < c0.size := by omega
              have hrel := (h6 (o + j) hin).1
              have hby : isByte (c0.getD (o + j) junk) = true := by
                rw [Array.all_eq_true] at hb
                have := hb j (by simp; omega)
                simpa [Array.getD, hin] using this
              simp only [xs, List.getElem?_map, List.getElem?_range hj', Option.map_some, Option.some.injEq] at hj
              generalize hv : c0.getD (o + j) junk = v at hrel hby hj
              have : ∃ m, v = .int .u8 m := by
                unfold isByte at hby
                split at hby
                · exact ⟨_, rfl⟩
                · cases hby
              obtain ⟨m, rfl⟩ := this
              simp only at hj
              subst hj
              have hrv := hrel.int_inv
              unfold World.cell?
              rw [ho']
              have hin' : (f b).off + (o + j) < cc.size := by omega
              simp only [Option.isSome_none, Bool.false_eq_true, if_false]
              rw [Array.getElem?_eq_getElem hin']
              simpa [Array.getD, hin'] using hrv
            have hlen : xs.length = n' := by simp [xs]
            have := Lib.run_loadBytesX (P := P) w xs ⟨(f b).blk, (f b).off + o, none⟩ .empty hcell
            rw [hlen] at this
            show (Extern.Bytes.loadBytes _ n' .empty).run P w = _
            rw [this]
            congr 1
            apply ByteArray.ext
            have e0 : ByteArray.empty.data = #[] := rfl
            simp only [bytesV, e0, Array.empty_append]
            apply Array.ext
            · simp [Lib.bytesOf, xs]; omega
            · intro i hi1 hi2
              have hi : i < n' := by simpa [Lib.bytesOf, xs] using hi1
              have hin : o + i < c0.size := by omega
              have hby : isByte (c0.getD (o + i) junk) = true := by
                rw [Array.all_eq_true] at hb
                have := hb i (by simp; omega)
                simpa [Array.getD, hin] using this
              have e2 : c0.getD (o + i) junk = c0[o + i] := by simp [Array.getD, hin]
              simp only [Lib.bytesOf, xs, List.getElem_toArray, List.getElem_map, List.getElem_range, Array.getElem_map, Array.getElem_extract, e2]
              rw [e2] at hby
              generalize c0[o + i] = v at hby
              unfold isByte at hby
              split at hby
              · rfl
              · cases hby
          · exact absurd h0 hnz
        · cases ha
      · cases ha
  · rename_i n' cap
    split at ha
    · rename_i hz
      simp only [Option.some.injEq, Prod.mk.injEq] at ha
      obtain ⟨rfl, rfl⟩ := ha
      subst hz
      cases hx
      rw [bytesV_nil]; rfl
    · cases ha
  · simp [isSlice] at hsl
  · cases ha

theorem arr1 {α : Type} {a : Array α} {x : α} (h : a.toList = [x]) : a = #[x] := by cases a; simp_all
theorem arr2 {α : Type} {a : Array α} {x y : α} (h : a.toList = [x, y]) : a = #[x, y] := by cases a; simp_all

theorem arel_one {f : Nat → Img} {L : Nat} {x : Value} {ys : Array Value} (h : ARel f L #[x] ys) : ∃ y, ys = #[y] ∧ VRel f L x y := by
  obtain ⟨l⟩ := ys
  match l, h with
  | [y], h => exact ⟨y, rfl, by simpa using h.2 0⟩
  | [], h => simp [ARel] at h
  | _ :: _ :: _, h => simp [ARel] at h

theorem arel_two {f : Nat → Img} {L : Nat} {x x2 : Value} {ys : Array Value} (h : ARel f L #[x, x2] ys) : ∃ y y2, ys = #[y, y2] ∧ VRel f L x y ∧ VRel f L x2 y2 := by
  obtain ⟨l⟩ := ys
  match l, h with
  | [y, y2], h => exact ⟨y, y2, rfl, by simpa using h.2 0, by simpa using h.2 1⟩
  | [], h => simp [ARel] at h
  | [_], h => simp [ARel] at h
  | _ :: _ :: _ :: _, h => simp [ARel] at h

theorem arel_plain {f : Nat → Img} {L : Nat} {xs ys : Array Value} (h : ARel f L xs ys) (hp : xs.all plainB = true) : ys = xs := by
  apply Array.ext h.1.symm
  intro i h1 h2
  have hr := h.2 i
  rw [Array.all_eq_true] at hp
  have := plain_inv (f := f) (L := L) (v := xs.getD i Am.junk) (v' := ys.getD i Am.junk) (by simpa [Array.getD, h2] using hp i h2) hr
  simpa [Array.getD, h1, h2] using this

theorem sound_builtin {P : Program} {f : Nat → Img} {h : AH} {w : World} (hs : Sim P f h w) (b : Builtin) (ts : Array TypeId) (ty : TypeId) (cs : Array Bool) {args args' : Array Value} (hr : ARel f h.length args args') {r : ARes}
    (ha : abuiltin P h b ts ty args = some r) : ResOk P f h w r ((builtin b ts ty cs args').run P w) := by
  unfold abuiltin at ha
  split at ha
  · rename_i t x ht hx
    obtain ⟨v, h1, rfl⟩ := aval_some ha
    cases arr1 hx; cases arr1 ht
    obtain ⟨y, rfl, hy⟩ := arel_one hr
    obtain ⟨r', g1, g2⟩ := sound_len hs (ts := #[t]) (ty := ty) rfl hy h1
    exact ⟨f, r', w, by simp only [builtin, Sem.run_bind, g1, Result.andThen_ok, Sem.run_pure], Step.refl hs, g2⟩
  · rename_i t u s x ht hx
    obtain ⟨v, h2, h1, rfl⟩ := avalh_some ha
    cases arr2 hx; cases arr2 ht
    obtain ⟨y, y2, rfl, hy, hy2⟩ := arel_two hr
    obtain ⟨f1, r', w1, g1, g2, g3⟩ := sound_append hs (ts := #[t, u]) (ty := ty) rfl rfl hy hy2 h1
    exact ⟨f1, r', w1, by simp only [builtin, Sem.run_bind, g1, Result.andThen_ok, Sem.run_pure], g2, g3⟩
  · rename_i t u d s ht hx
    obtain ⟨v, h2, h1, rfl⟩ := avalh_some ha
    cases arr2 hx; cases arr2 ht
    obtain ⟨y, y2, rfl, hy, hy2⟩ := arel_two hr
    obtain ⟨r', w1, g1, g2, g3⟩ := sound_copy hs (ts := #[t, u]) (ty := ty) rfl hy hy2 h1
    exact ⟨f, r', w1, by simp only [builtin, Sem.run_bind, g1, Result.andThen_ok, Sem.run_pure], g2, g3⟩
  · split at ha
    · rename_i hp
      obtain ⟨v, h1, rfl⟩ := aval_some ha
      obtain ⟨h2, h3⟩ := plainOut_some h1
      cases arel_plain hr hp
      exact ⟨f, v, w, by simp only [builtin, Sem.run_bind, pureRun_run h2 w, Result.andThen_ok, Sem.run_pure], Step.refl hs, plain_refl h3⟩
    · cases ha
  · split at ha
    · rename_i hp
      obtain ⟨v, h1, rfl⟩ := aval_some ha
      obtain ⟨h2, h3⟩ := plainOut_some h1
      cases arel_plain hr hp
      exact ⟨f, v, w, by simp only [builtin, Sem.run_bind, pureRun_run h2 w, Result.andThen_ok, Sem.run_pure], Step.refl hs, plain_refl h3⟩
    · cases ha
  · cases ha

theorem sound_aop {P : Program} {f : Nat → Img} {h : AH} {w : World} (hs : Sim P f h w) {ρ ρ' : Operand → Value} (hr : ∀ x, VRel f h.length (ρ x) (ρ' x)) (o : Oper) {r : ARes} (ha : aop P ρ h o = some r) :
    ResOk P f h w r ((execOp ρ' o).run P w) := by
  obtain ⟨dst, op, type, pos, after, guard⟩ := o
  unfold aop at ha
  cases op <;> simp only at ha <;> (try (simp only [amore] at ha; cases ha; done)) <;> simp only [execOp]
  case move x => cases ha; exact ⟨f, _, w, rfl, Step.refl hs, hr x⟩
  case assign x => cases ha; exact ⟨f, _, w, rfl, Step.refl hs, hr x⟩
  case pick c a b =>
    split at ha
    · rename_i t ht
      cases ha
      have hc := hr c
      rw [ht] at hc
      refine ⟨f, (if t = true then ρ' a else ρ' b), w, by simp only [Sem.run_bind, hc.bool_inv, asBool, Sem.run_pure, Result.andThen_ok], Step.refl hs, ?_⟩
      cases t
      · exact hr b
      · exact hr a
    · cases ha
  case alloc e =>
    obtain ⟨v, h2, h1, rfl⟩ := avalh_some ha
    obtain ⟨f1, r', w1, g1, g2, g3⟩ := sound_alloc hs e h1
    exact ⟨f1, r', w1, by simp only [Sem.run_bind, g1, Result.andThen_ok, Sem.run_pure], g2, g3⟩
  case box e x =>
    obtain ⟨v, h2, h1, rfl⟩ := avalh_some ha
    obtain ⟨f1, r', w1, g1, g2, g3⟩ := sound_box hs e (hr x) h1
    exact ⟨f1, r', w1, by simp only [Sem.run_bind, g1, Result.andThen_ok, Sem.run_pure], g2, g3⟩
  case build t ps =>
    obtain ⟨v, h1, rfl⟩ := aval_some ha
    obtain ⟨r', g1, g2⟩ := sound_build (P := P) w t (parts := ps.map fun (i, x) => (i, ρ x)) (parts' := ps.map fun (i, x) => (i, ρ' x)) (by simpa using prel_map hr ps.toList) (by simpa using h1)
    exact ⟨f, r', w, by simp only [Sem.run_bind, g1, Result.andThen_ok, Sem.run_pure], Step.refl hs, g2⟩
  case buildSlice t n ps =>
    obtain ⟨v, h2, h1, rfl⟩ := avalh_some ha
    obtain ⟨f1, r', w1, g1, g2, g3⟩ := sound_buildSlice hs t n (parts := ps.map fun (i, x) => (i, ρ x)) (parts' := ps.map fun (i, x) => (i, ρ' x)) (by simpa using prel_map hr ps.toList) (by simpa using h1)
    exact ⟨f1, r', w1, by simp only [Sem.run_bind, g1, Result.andThen_ok, Sem.run_pure], g2, g3⟩
  case load t a =>
    obtain ⟨v, h1, rfl⟩ := aval_some ha
    obtain ⟨r', g1, g2⟩ := sound_load hs (hr a) h1
    exact ⟨f, r', w, by simp only [Sem.run_bind, g1, Result.andThen_ok, Sem.run_pure], Step.refl hs, g2⟩
  case store t a x =>
    obtain ⟨h2, h1, rfl⟩ := askip_some ha
    obtain ⟨w1, g1, g2⟩ := sound_store hs (hr a) (hr x) h1
    exact ⟨f, w1, by simp only [Sem.run_bind, g1, Result.andThen_ok, Sem.run_pure], g2⟩
  case nilCheck x =>
    obtain ⟨v, h1, rfl⟩ := aval_some ha
    obtain ⟨r', g1, g2⟩ := sound_nilCheck (P := P) w ρ' ⟨dst, .nilCheck x, type, pos, after, guard⟩ x rfl (hr x) h1
    exact ⟨f, r', w, by simpa only [execOp] using g1, Step.refl hs, g2⟩
  case binOp op t x y u =>
    obtain ⟨v, h1, rfl⟩ := aval_some ha
    obtain ⟨r', g1, g2⟩ := sound_binOp (P := P) w op t x y (hr x) (hr y) h1
    exact ⟨f, r', w, by rw [Sem.run_bind, g1]; rfl, Step.refl hs, g2⟩
  case unOp op t x =>
    obtain ⟨v, h1, rfl⟩ := aval_some ha
    obtain ⟨r', g1, g2⟩ := sound_unOp (P := P) w op (hr x) h1
    exact ⟨f, r', w, by simp only [Sem.run_bind, g1, Result.andThen_ok, Sem.run_pure], Step.refl hs, g2⟩
  case convert s d x =>
    obtain ⟨v, h2, h1, rfl⟩ := avalh_some ha
    obtain ⟨f1, r', w1, g1, g2, g3⟩ := sound_convert hs (hr x) h1
    exact ⟨f1, r', w1, by simp only [Sem.run_bind, g1, Result.andThen_ok, Sem.run_pure], g2, g3⟩
  case sliceToArrayPointer t x =>
    obtain ⟨v, h1, rfl⟩ := aval_some ha
    obtain ⟨r', g1, g2⟩ := sound_arrayPtr (P := P) w (hr x) h1
    exact ⟨f, r', w, by simp only [Sem.run_bind, g1, Result.andThen_ok, Sem.run_pure], Step.refl hs, g2⟩
  case makeInterface t x =>
    obtain ⟨v, h1, rfl⟩ := aval_some ha
    obtain ⟨r', g1, g2⟩ := sound_makeIface (P := P) w (hr x) h1
    exact ⟨f, r', w, by simp only [Sem.run_bind, g1, Result.andThen_ok, Sem.run_pure], Step.refl hs, g2⟩
  case makeFunc fn xs cs =>
    obtain ⟨v, h1, rfl⟩ := aval_some ha
    obtain ⟨r', g1, g2⟩ := sound_makeFunc (P := P) w (arel_map hr xs) (arel_map hr cs) h1
    exact ⟨f, r', w, by simp only [Sem.run_bind, g1, Result.andThen_ok, Sem.run_pure], Step.refl hs, g2⟩
  case makeMap t r0 =>
    cases r0 with
    | some x => simp only [amore] at ha; cases ha
    | none =>
      cases ha
      have := Step.alloc hs (.map #[] 0) (.map #[] 0) ⟨w.heap.size, 0, 0, 0, 0⟩ rfl ⟨#[], rfl, rfl, fun i e he => by simp at he⟩
      exact ⟨_, .map (some w.heap.size), _, by simp only [Option.map_none, Instr.makeMap, Sem.run_bind, Sem.run_pure, Result.andThen_ok, run_newObj]; rfl, this, .map _ _ (by simp) (by rw [upd_eq])⟩
  case makeSlice t l c =>
    obtain ⟨v, h2, h1, rfl⟩ := avalh_some ha
    obtain ⟨f1, r', w1, g1, g2, g3⟩ := sound_makeSlice hs t (hr l) (hr c) h1
    exact ⟨f1, r', w1, by simp only [Sem.run_bind, g1, Result.andThen_ok, Sem.run_pure], g2, g3⟩
  case slice t x lo hi mx =>
    cases mx with
    | some x => simp only [amore] at ha; cases ha
    | none =>
      obtain ⟨v, h1, rfl⟩ := aval_some ha
      obtain ⟨r', g1, g2⟩ := sound_slice hs (hr x) (optrel_map hr lo) (optrel_map hr hi) h1
      exact ⟨f, r', w, by simp only [Option.map_none, Sem.run_bind, g1, Result.andThen_ok, Sem.run_pure], Step.refl hs, g2⟩
  case fieldAddr t x k =>
    obtain ⟨v, h1, rfl⟩ := aval_some ha
    obtain ⟨r', g1, g2⟩ := sound_fieldAddr (P := P) w (hr x) h1
    exact ⟨f, r', w, by simp only [Sem.run_bind, g1, Result.andThen_ok, Sem.run_pure], Step.refl hs, g2⟩
  case field t x k =>
    obtain ⟨v, h1, rfl⟩ := aval_some ha
    obtain ⟨r', g1, g2⟩ := sound_field (P := P) w (hr x) h1
    exact ⟨f, r', w, by simp only [Sem.run_bind, g1, Result.andThen_ok, Sem.run_pure], Step.refl hs, g2⟩
  case indexAddr t x i =>
    obtain ⟨v, h1, rfl⟩ := aval_some ha
    obtain ⟨r', g1, g2⟩ := sound_indexAddr (P := P) w (hr x) (hr i) h1
    exact ⟨f, r', w, by simp only [Sem.run_bind, g1, Result.andThen_ok, Sem.run_pure], Step.refl hs, g2⟩
  case index t x i =>
    obtain ⟨v, h1, rfl⟩ := aval_some ha
    obtain ⟨r', g1, g2⟩ := sound_index (P := P) w (hr x) (hr i) h1
    exact ⟨f, r', w, by simp only [Sem.run_bind, g1, Result.andThen_ok, Sem.run_pure], Step.refl hs, g2⟩
  case extract x k =>
    obtain ⟨v, h1, rfl⟩ := aval_some ha
    obtain ⟨r', g1, g2⟩ := sound_extract (P := P) w (hr x) h1
    exact ⟨f, r', w, by simp only [Sem.run_bind, g1, Result.andThen_ok, Sem.run_pure], Step.refl hs, g2⟩
  case call c =>
    split at ha
    · rename_i fo hfo
      unfold acall at ha
      split at ha
      · rename_i F first captured hfv
        split at ha
        · rename_i hb
          cases ha
          have hv := hr fo
          rw [hfv] at hv
          generalize hv' : ρ' fo = v' at hv
          cases hv with
          | func fn xs ys cs ds hfn h1 h2 h3 h4 =>
            refine ⟨_, ?_, arel_append (arel_append ⟨h1, h2⟩ (arel_map hr c.args)) ⟨h3, h4⟩⟩
            simp only [resolve, hfo, hv', Deferred.ofValue, Sem.run_bind, Sem.run_pure, Result.andThen_ok, invoke, run_callFunc hb]
        · unfold aextern at ha
          split at ha
          · rename_i x y hxy
            split at ha
            · rename_i hc
              obtain ⟨v, h1, rfl⟩ := aval_some ha
              have hv := hr fo
              rw [hfv] at hv
              generalize hv' : ρ' fo = v' at hv
              cases hv with
              | func fn xs ys cs ds hfn g1 g2 g3 g4 =>
                have hargs := arel_append (arel_append ⟨g1, g2⟩ (arel_map hr c.args)) ⟨g3, g4⟩
                rw [arr2 hxy] at hargs
                obtain ⟨x', y', e, hx, hy⟩ := arel_two hargs
                unfold acompare at h1
                split at h1
                · rename_i hsl
                  split at h1
                  · rename_i n cc m dd hc1 hc2
                    split at h1
                    · rename_i hby
                      cases h1
                      refine ⟨f, .int .i64 (cmpV cc dd), w, ?_, Step.refl hs, .int _ _⟩
                      have b1 := sound_bytes hs hx hsl.1 hc1 hby.1
                      have b2 := sound_bytes hs hy hsl.2 hc2 hby.2
                      simp only [resolve, hfo, hv', Deferred.ofValue, Sem.run_bind, Sem.run_pure, Result.andThen_ok, invoke]
                      rw [e, isCompare_run hc]
                      rw [compare_two]
                      simp only [Sem.run_bind, b1, b2, Result.andThen_ok, Sem.run_pure]
                      rfl
                    · cases h1
                  · cases h1
                · cases h1
            · cases ha
          · cases ha
      · cases ha
    · rename_i b hb
      have := sound_builtin hs b c.argTypes type (c.args.map fun | .const _ => true | _ => false) (arel_map hr c.args) ha
      have e : (do let d ← resolve ρ' c type; invoke d.target d.args : Sem Next).run P w = (builtin b c.argTypes type (c.args.map fun | .const _ => true | _ => false) (c.args.map ρ')).run P w := by
        simp only [resolve, hb, Sem.run_bind, Sem.run_pure, Result.andThen_ok, invoke]
        rfl
      rw [e]
      exact this
    · cases ha

end Go.Am
