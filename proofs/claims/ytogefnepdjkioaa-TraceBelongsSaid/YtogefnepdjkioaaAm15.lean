import Derived.Test.YtogefnepdjkioaaAm14
set_option linter.unusedVariables false
set_option linter.unusedSimpArgs false
/- Equations, second part: regions that draw; types' closed facts; memory. -/
namespace Go.Am
open Go

/-- code, with regions that draw taken in -/
def ay (P : Program) (h0 : AH) : Code → (Exit → Array Value → AH → Prop) → Array Value → AH → Prop
  | .skip, Q, a, h => Q .normal a h
  | .region _ ops false, Q, a, h => awl P ops Q ops.toList a h
  | .region _ ops true, Q, a, h => okDraw P ops.toList = true ∧ P.follows .mixedOrders = true ∧ awd P ops h Q ops.toList a h
  | .seq x y, Q, a, h => ay P h0 x (thenA (ay P h0 y Q) Q) a h
  | .cond c x y, Q, a, h => ∃ t, aeval P a c = .bool t ∧ (t = true → ay P h0 x Q a h) ∧ (t = false → ay P h0 y Q a h)
  | .block id c, Q, a, h => ay P h0 c (inBlockA id Q) a h
  | .exit id, Q, a, h => Q (.exit id) a h
  | .ret, Q, a, h => Q .ret a h
  | .label _, Q, a, h => Q .normal a h
  | c, Q, a, h => AWP P h0 c Q a h

theorem ay_sound {P : Program} {h0 : AH} (c : Code) : ∀ (Q : Exit → Array Value → AH → Prop) (a : Array Value) (h : AH), ay P h0 c Q a h → AWP P h0 c Q a h := by
  induction c with
  | skip => intro Q a h ha f0 w0 f a' w s0 g; exact Go.wp_skip ⟨f, a, h, ha, g⟩
  | region id ops draw =>
    intro Q a h ha
    cases draw with
    | false => exact AWP.region ha
    | true =>
      obtain ⟨h1, h2, h3⟩ := ha
      have := AWP.draw (P := P) (h0 := h0) (id := id) (l := ops.toList) (Q := Q) (a := a) (h := h) h2 h1 (by simpa using h3)
      simpa using this
  | seq x y ihx ihy => intro Q a h ha; exact AWP.seq (AWP.mono (ihx _ a h ha) (thenA_mono fun a h hx => ihy Q a h hx))
  | cond c x y ihx ihy =>
    intro Q a h ha f0 w0 f a' w s0 g
    obtain ⟨t, ht, h1, h2⟩ := ha
    have hc := aeval_rel g.sim g.tm c
    rw [ht] at hc
    refine wp_cond_split hc.bool_inv (fun e => ?_) (fun e => ?_)
    · exact ihx Q a h (h1 e) f0 w0 f a' w s0 g
    · exact ihy Q a h (h2 e) f0 w0 f a' w s0 g
  | block id c ih => intro Q a h ha; exact AWP.block (ih _ a h ha)
  | loop c ih => intro Q a h ha; exact ha
  | rangeFunc f ps as c ih1 ih2 => intro Q a h ha; exact ha
  | exit id => intro Q a h ha f0 w0 f a' w s0 g; exact Go.wp_exit ⟨f, a, h, ha, g⟩
  | scope c ih => intro Q a h ha; exact ha
  | label l => intro Q a h ha f0 w0 f a' w s0 g; exact Go.wp_label ⟨f, a, h, ha, g⟩
  | goto l => intro Q a h ha; exact ha
  | ret => intro Q a h ha f0 w0 f a' w s0 g; exact Go.wp_ret ⟨f, a, h, ha, g⟩
  | refuse why => intro Q a h ha; exact ha

theorem ACalls.of_ay {P : Program} {F : FuncId} {fn : Func} {c : Code} (hf : P.funcs[F]? = some fn) (hb : fn.body = some c) {n : Nat} (hn : fn.ntmps = n) {args : List Value} {h : AH} {R : Value → AH → Prop} (inh : ∃ v h', R v h')
    (ha : ay P h c (apost P h fn R) (args ++ List.replicate (n - args.length) undef).toArray h) : ACalls P F args.toArray h R := by
  subst hn
  refine ACalls.of_awp hf hb inh (ay_sound c _ _ _ ?_)
  have e : (args.toArray ++ Array.replicate (fn.ntmps - args.toArray.size) undef) = (args ++ List.replicate (fn.ntmps - args.length) undef).toArray := by
    simp
  rw [e]
  exact ha

section
variable {P : Program} {ops : Array Oper} {Q : Exit → Array Value → AH → Prop} {rest : List Oper} {a : Array Value} {h H0 h0 : AH} {dst : Option Tmp} {ty : TypeId} {pos : String} {after : Array Edge}

theorem ay_skip : ay P h0 .skip Q a h = Q .normal a h := rfl
theorem ay_region {id : Nat} {l : List Oper} : ay P h0 (.region id l.toArray false) Q a h = awl P l.toArray Q l a h := rfl
theorem ay_draw {id : Nat} {l : List Oper} : ay P h0 (.region id l.toArray true) Q a h = (okDraw P l = true ∧ P.follows .mixedOrders = true ∧ awd P l.toArray h Q l a h) := rfl
theorem ay_seq {x y : Code} : ay P h0 (.seq x y) Q a h = ay P h0 x (thenA (ay P h0 y Q) Q) a h := rfl
theorem ay_block {id : Nat} {c : Code} : ay P h0 (.block id c) Q a h = ay P h0 c (inBlockA id Q) a h := rfl
theorem ay_exit {id : Nat} : ay P h0 (.exit id) Q a h = Q (.exit id) a h := rfl
theorem ay_ret : ay P h0 .ret Q a h = Q .ret a h := rfl
theorem ay_loop {c : Code} : ay P h0 (.loop c) Q a h = AWP P h0 (.loop c) Q a h := rfl
def ycond (P : Program) (h0 : AH) (x y : Code) (Q : Exit → Array Value → AH → Prop) (a : Array Value) (h : AH) (v : Value) : Prop :=
  ∃ t, v = .bool t ∧ (t = true → ay P h0 x Q a h) ∧ (t = false → ay P h0 y Q a h)
theorem ay_cond {c : Operand} {x y : Code} : ay P h0 (.cond c x y) Q a h = ycond P h0 x y Q a h (aeval P a c) := rfl
theorem ycond_bool {x y : Code} {t : Bool} : ycond P h0 x y Q a h (.bool t) = ((t = true → ay P h0 x Q a h) ∧ (t = false → ay P h0 y Q a h)) := by
  unfold ycond
  apply propext
  constructor
  · rintro ⟨t', e, h1⟩; cases e; exact h1
  · intro h1; exact ⟨t, rfl, h1⟩

/-- what follows an operation, in a region that draws -/
def dstep (P : Program) (ops : Array Oper) (H0 : AH) (Q : Exit → Array Value → AH → Prop) (rest : List Oper) (o : Oper) (a : Array Value) (h : AH) : Option ARes → Prop
  | some (.val v h1) => leaves H0 rest o h1 ∧ awd P ops H0 Q rest (aput a o.dst v) h1
  | some (.skip h1) => leaves H0 rest o h1 ∧ awd P ops H0 Q rest (aput a o.dst undef) h1
  | some (.enter F args) => ∃ R, ACalls P F args h R ∧ Calm P ops F args h R ∧ ∀ v h1, R v h1 → Pres H0 h1 ∧ awd P ops H0 Q rest (aput a o.dst v) h1
  | _ => False
def dvstep (P : Program) (ops : Array Oper) (H0 : AH) (Q : Exit → Array Value → AH → Prop) (rest : List Oper) (dst : Option Tmp) (a : Array Value) (h : AH) : Option ARes → Prop
  | some (.val v _) => awd P ops H0 Q rest (aput a dst v) h
  | _ => False
def dgate (P : Program) (ops : Array Oper) (H0 : AH) (Q : Exit → Array Value → AH → Prop) (rest : List Oper) (o : Oper) (a : Array Value) (h : AH) : Option Bool → Prop
  | some false => awd P ops H0 Q rest (aput a o.dst undef) h
  | some true => bif isV P o.op then dvstep P ops H0 Q rest o.dst a h (aop P (aeval P a) H0 o) else dstep P ops H0 Q rest o a h (aop P (aeval P a) h o)
  | none => False
theorem awd_nil : awd P ops H0 Q [] a h = Q .normal a h := rfl
theorem awd_gate {o : Oper} : awd P ops H0 Q (o :: rest) a h = dgate P ops H0 Q rest o a h (gval ops a o) := by
  simp only [awd]
  unfold dgate dvstep dstep
  cases gval ops a o with
  | none => rfl
  | some b =>
    cases b with
    | false => rfl
    | true =>
      simp only []
      cases hv : isV P o.op <;> simp only [cond_true, cond_false, if_true, if_false, Bool.false_eq_true] <;> rfl
theorem gval_none {op : Op} : gval ops a ⟨dst, op, ty, pos, after, none⟩ = some true := rfl
theorem dgate_false {o : Oper} : dgate P ops H0 Q rest o a h (some false) = awd P ops H0 Q rest (aput a o.dst undef) h := rfl
theorem dgate_true {o : Oper} : dgate P ops H0 Q rest o a h (some true) = bif isV P o.op then dvstep P ops H0 Q rest o.dst a h (aop P (aeval P a) H0 o) else dstep P ops H0 Q rest o a h (aop P (aeval P a) h o) := rfl
theorem dvstep_val {v : Value} {h1 : AH} : dvstep P ops H0 Q rest dst a h (some (.val v h1)) = awd P ops H0 Q rest (aput a dst v) h := rfl
theorem dstep_val {o : Oper} {v : Value} {h1 : AH} : dstep P ops H0 Q rest o a h (some (.val v h1)) = (leaves H0 rest o h1 ∧ awd P ops H0 Q rest (aput a o.dst v) h1) := rfl
theorem dstep_skip {o : Oper} {h1 : AH} : dstep P ops H0 Q rest o a h (some (.skip h1)) = (leaves H0 rest o h1 ∧ awd P ops H0 Q rest (aput a o.dst undef) h1) := rfl
theorem dstep_enter {o : Oper} {F : FuncId} {args : Array Value} : dstep P ops H0 Q rest o a h (some (.enter F args)) = ∃ R, ACalls P F args h R ∧ Calm P ops F args h R ∧ ∀ v h1, R v h1 → Pres H0 h1 ∧ awd P ops H0 Q rest (aput a o.dst v) h1 := rfl
end

/-! ### closed facts of types -/
/-- an aggregate? how many cells? -/
def tyc (P : Program) (t : TypeId) : Option (Bool × Nat) :=
  match P.underlying t, P.info? t with
  | some d, some i => some (isAggD d, i.size)
  | _, _ => none

/-- a struct's field: where, an aggregate?, how many cells -/
def fld (P : Program) (t : TypeId) (k : Nat) : Option (Nat × Bool × Nat) :=
  match P.underlying t with
  | some (.struct fields) => match fields[k]? with
    | some fd => match tyc P fd.type with
      | some (g, n) => some (fd.offset, g, n)
      | none => none
    | none => none
  | _ => none

/-- an array: how long, of aggregates?, of how many cells -/
def arr (P : Program) (t : TypeId) : Option (Nat × Bool × Nat) :=
  match P.underlying t with
  | some (.array n elem) => match tyc P elem with
    | some (g, m) => some (n, g, m)
    | none => none
  | _ => none

/-- a slice: of aggregates?, of how many cells and bytes -/
def slc (P : Program) (t : TypeId) : Option (Bool × Nat × Nat) :=
  match P.underlying t with
  | some (.slice elem) => match tyc P elem, P.info? elem with
    | some (g, m), some ie => some (g, m, ie.bytes)
    | _, _ => none
  | _ => none

section
variable {P : Program} {h : AH} {t : TypeId} {b o n m : Nat} {c : Array Value} {es : Nat} {rw g : Bool} {v : Value}

theorem aload_agg (ht : tyc P t = some (true, n)) (hb : h[b]? = some (.cells c es rw)) (hle : o + n ≤ c.size) : aload P h t (.pointer (some ⟨b, o, none⟩)) = some (.agg (c.extract o (o + n))) := by
  unfold tyc at ht
  split at ht
  · rename_i d i hu hi
    simp only [Option.some.injEq, Prod.mk.injEq] at ht
    obtain ⟨h1, h2⟩ := ht
    simp only [aload, aloadRow, hb, hu, hi, h1, h2, if_true, hle]
  · cases ht
theorem aload_whole (ht : tyc P t = some (true, n)) (hb : h[b]? = some (.cells c es rw)) (hn : c.size = n) : aload P h t (.pointer (some ⟨b, 0, none⟩)) = some (.agg c) := by
  rw [aload_agg ht hb (by omega)]
  subst hn
  simp
theorem aload_cell (ht : tyc P t = some (false, n)) (hb : h[b]? = some (.cells c es rw)) (hc : c[o]? = some v) : aload P h t (.pointer (some ⟨b, o, none⟩)) = some v := by
  unfold tyc at ht
  split at ht
  · rename_i d i hu hi
    simp only [Option.some.injEq, Prod.mk.injEq] at ht
    obtain ⟨h1, h2⟩ := ht
    simp only [aload, aloadRow, hb, hu, hi, h1, Bool.false_eq_true, if_false, hc]
  · cases ht

theorem astore_eq (ht : tyc P t = some (g, n)) (hb : h[b]? = some (.cells c es true)) (hs : storable v = true) (hn : v.cells.size = n) (hle : o + n ≤ c.size) :
    astore P h t (.pointer (some ⟨b, o, none⟩)) v = some (h.set b (.cells (blit c o v.cells.toList) es true)) := by
  unfold tyc at ht
  split at ht
  · rename_i d i hu hi
    simp only [Option.some.injEq, Prod.mk.injEq] at ht
    obtain ⟨h1, h2⟩ := ht
    have : storable v = true ∧ v.cells.size = i.size ∧ o + v.cells.size ≤ c.size := ⟨hs, by omega, by omega⟩
    simp only [astore, hb, hi]
    rw [if_pos this]
  · cases ht

theorem blit_whole (c : Array Value) (vs : List Value) (h : vs.length = c.size) : blit c 0 vs = vs.toArray := by
  have key : ∀ (vs : List Value) (c : Array Value) (o : Nat), o + vs.length = c.size → blit c o vs = (c.toList.take o ++ vs).toArray := by
    intro vs
    induction vs with
    | nil =>
      intro c o h
      simp at h
      subst h
      rw [blit, List.append_nil, List.take_of_length_le (by simp)]
    | cons v r ih =>
      intro c o h
      simp only [List.length_cons] at h
      rw [blit, ih _ _ (by simp; omega)]
      congr 1
      rw [Array.toList_setIfInBounds]
      have ho : o < c.toList.length := by simp; omega
      rw [List.take_add_one, List.take_set_of_le (by omega), List.getElem?_set_self ho]
      simp
  have := key vs c 0 (by omega)
  simpa using this

/-- a variable of an aggregate type, written whole -/
theorem astore_whole {x : Array Value} (ht : tyc P t = some (g, n)) (hb : h[b]? = some (.cells c es true)) (hn : x.size = n) (hc : c.size = n) :
    astore P h t (.pointer (some ⟨b, 0, none⟩)) (.agg x) = some (h.set b (.cells x es true)) := by
  rw [astore_eq (v := .agg x) ht hb rfl hn (by omega), blit_whole _ _ (by simp [Value.cells]; omega)]
  simp [Value.cells]
theorem astore_cell (ht : tyc P t = some (g, 1)) (hb : h[b]? = some (.cells c es true)) (hs : storable v = true) (hv : v.cells = #[v]) (ho : o < c.size) :
    astore P h t (.pointer (some ⟨b, o, none⟩)) v = some (h.set b (.cells (c.setIfInBounds o v) es true)) := by
  rw [astore_eq ht hb hs (by rw [hv]; rfl) (by omega), hv]
  rfl

theorem abox_agg {x : Array Value} : abox h (.agg x) = some (.pointer (some ⟨h.length, 0, none⟩), h ++ [.cells x 0 true]) := rfl
theorem abox_int {k : IntKind} {z : Int} : abox h (.int k z) = some (.pointer (some ⟨h.length, 0, none⟩), h ++ [.cells #[.int k z] 0 true]) := rfl
theorem abox_bool {z : Bool} : abox h (.bool z) = some (.pointer (some ⟨h.length, 0, none⟩), h ++ [.cells #[.bool z] 0 true]) := rfl
theorem abox_slice {x : Option Addr} {l k : Nat} : abox h (.slice x l k) = some (.pointer (some ⟨h.length, 0, none⟩), h ++ [.cells #[.slice x l k] 0 true]) := rfl
theorem abox_map {x : Option Nat} : abox h (.map x) = some (.pointer (some ⟨h.length, 0, none⟩), h ++ [.cells #[.map x] 0 true]) := rfl
theorem abox_string {s : ByteArray} : abox h (.string s) = some (.pointer (some ⟨h.length, 0, none⟩), h ++ [.cells #[.string s] 0 true]) := rfl
theorem abox_pointer {x : Option Addr} : abox h (.pointer x) = some (.pointer (some ⟨h.length, 0, none⟩), h ++ [.cells #[.pointer x] 0 true]) := rfl
theorem abox_func {F : Fn} {xs cs : Array Value} : abox h (.func F xs cs) = some (.pointer (some ⟨h.length, 0, none⟩), h ++ [.cells #[.func F xs cs] 0 true]) := rfl

theorem aalloc_eq {zc : Array Value} (hz : zeroCellsOf P t = some zc) : aalloc P h t = some (.pointer (some ⟨h.length, 0, none⟩), h ++ [.cells zc 0 true]) := by
  obtain ⟨i, z, hi, hz', hzc, hall, hsz, hpos⟩ := zeroCellsOf_spec hz
  have hp : plainB z = true ∧ storable z = true := by
    cases z with
    | agg cs => simp only [Value.cells] at hzc; subst hzc; exact ⟨hall, rfl⟩
    | _ =>
      simp only [Value.cells] at hzc
      subst hzc
      simp only [List.all_toArray, List.all_cons, List.all_nil, Bool.and_true] at hall
      first
        | (simp [plain1] at hall; done)
        | exact ⟨by simpa [plainB] using hall, rfl⟩
        | (refine ⟨by cases ‹Option _› <;> simp_all [plainB, plain1], rfl⟩)
  simp only [aalloc, hi, hz', hp.1, hp.2, Bool.and_self, if_true, hzc]

theorem afieldAddr_eq {k off : Nat} (hf : fld P t k = some (off, g, n)) (hn : n ≠ 0) : afieldAddr P t (.pointer (some ⟨b, o, none⟩)) k = some (.pointer (some ⟨b, o + off, none⟩)) := by
  unfold fld at hf
  split at hf
  · rename_i fields hu
    split at hf
    · rename_i fd hfd
      split at hf
      · rename_i g' n' ht
        simp only [Option.some.injEq, Prod.mk.injEq] at hf
        obtain ⟨rfl, rfl, rfl⟩ := hf
        unfold tyc at ht
        split at ht
        · rename_i d i hud hi
          simp only [Option.some.injEq, Prod.mk.injEq] at ht
          obtain ⟨h1, h2⟩ := ht
          simp only [afieldAddr, hu, hfd, hi]
          rw [if_neg (by omega)]
        · cases ht
      · cases hf
    · cases hf
  · cases hf

theorem apart_agg {x : Array Value} (ht : tyc P t = some (true, n)) (hle : o + n ≤ x.size) : apart P t x o = some (.agg (x.extract o (o + n))) := by
  unfold tyc at ht
  split at ht
  · rename_i d i hu hi
    simp only [Option.some.injEq, Prod.mk.injEq] at ht
    obtain ⟨h1, h2⟩ := ht
    simp only [apart, hu, hi, h1, h2, if_true, hle]
  · cases ht
theorem apart_cell {x : Array Value} (ht : tyc P t = some (false, n)) (hc : x[o]? = some v) : apart P t x o = some v := by
  unfold tyc at ht
  split at ht
  · rename_i d i hu hi
    simp only [Option.some.injEq, Prod.mk.injEq] at ht
    obtain ⟨h1, h2⟩ := ht
    simp only [apart, hu, hi, h1, Bool.false_eq_true, if_false, hc]
  · cases ht

theorem fld_spec {k off : Nat} (hf : fld P t k = some (off, g, n)) : ∃ fields fd, P.underlying t = some (.struct fields) ∧ fields[k]? = some fd ∧ fd.offset = off ∧ tyc P fd.type = some (g, n) := by
  unfold fld at hf
  split at hf
  · rename_i fields hu
    split at hf
    · rename_i fd hfd
      split at hf
      · rename_i g' n' ht
        simp only [Option.some.injEq, Prod.mk.injEq] at hf
        obtain ⟨rfl, rfl, rfl⟩ := hf
        exact ⟨fields, fd, hu, hfd, rfl, ht⟩
      · cases hf
    · cases hf
  · cases hf

theorem afield_agg {x : Array Value} {k off : Nat} (hf : fld P t k = some (off, true, n)) (hle : off + n ≤ x.size) : afield P t (.agg x) k = some (.agg (x.extract off (off + n))) := by
  obtain ⟨fields, fd, hu, hfd, ho, ht⟩ := fld_spec hf
  subst ho
  simp only [afield, hu, hfd, apart_agg ht hle]
theorem afield_cell {x : Array Value} {k off : Nat} (hf : fld P t k = some (off, false, n)) (hc : x[off]? = some v) : afield P t (.agg x) k = some v := by
  obtain ⟨fields, fd, hu, hfd, ho, ht⟩ := fld_spec hf
  subst ho
  simp only [afield, hu, hfd, apart_cell ht hc]

theorem arr_spec (ha : arr P t = some (n, g, m)) : ∃ elem ie, P.underlying t = some (.array n elem) ∧ tyc P elem = some (g, m) ∧ P.info? elem = some ie ∧ ie.size = m := by
  unfold arr at ha
  split at ha
  · rename_i n' elem hu
    split at ha
    · rename_i g' m' ht
      simp only [Option.some.injEq, Prod.mk.injEq] at ha
      obtain ⟨rfl, rfl, rfl⟩ := ha
      have ht0 := ht
      unfold tyc at ht
      split at ht
      · rename_i d i hud hi
        simp only [Option.some.injEq, Prod.mk.injEq] at ht
        exact ⟨elem, i, hu, ht0, hi, ht.2⟩
      · cases ht
    · cases ha
  · cases ha

theorem slc_spec {by_ : Nat} (ha : slc P t = some (g, m, by_)) : ∃ elem ie, P.underlying t = some (.slice elem) ∧ tyc P elem = some (g, m) ∧ P.info? elem = some ie ∧ ie.size = m ∧ ie.bytes = by_ := by
  unfold slc at ha
  split at ha
  · rename_i elem hu
    split at ha
    · rename_i g' m' ie ht hie
      simp only [Option.some.injEq, Prod.mk.injEq] at ha
      obtain ⟨rfl, rfl, rfl⟩ := ha
      have ht0 := ht
      unfold tyc at ht
      rw [hie] at ht
      split at ht
      · rename_i d i hud hi
        cases hi
        simp only [Option.some.injEq, Prod.mk.injEq] at ht
        exact ⟨elem, ie, hu, ht0, hie, ht.2, rfl⟩
      · cases ht
    · cases ha
  · cases ha

theorem aindex_cell {x : Array Value} {k : IntKind} {i : Int} (ha : arr P t = some (n, false, m)) (h0 : 0 ≤ i) (h1 : i < n) (hc : x[i.toNat * m]? = some v) : aindex P t (.agg x) (.int k i) = some v := by
  obtain ⟨elem, ie, hu, ht, hie, hsz⟩ := arr_spec ha
  simp only [aindex, hu, hie, h0, h1, and_self, if_true, hsz, apart_cell ht hc]
theorem aindex_agg {x : Array Value} {k : IntKind} {i : Int} (ha : arr P t = some (n, true, m)) (h0 : 0 ≤ i) (h1 : i < n) (hle : i.toNat * m + m ≤ x.size) : aindex P t (.agg x) (.int k i) = some (.agg (x.extract (i.toNat * m) (i.toNat * m + m))) := by
  obtain ⟨elem, ie, hu, ht, hie, hsz⟩ := arr_spec ha
  simp only [aindex, hu, hie, h0, h1, and_self, if_true, hsz, apart_agg ht hle]
theorem aindexAddr_arr {k : IntKind} {i : Int} (ha : arr P t = some (n, g, m)) (h0 : 0 ≤ i) (h1 : i < n) : aindexAddr P t (.pointer (some ⟨b, o, none⟩)) (.int k i) = some (.pointer (some ⟨b, o + i.toNat * m, none⟩)) := by
  obtain ⟨elem, ie, hu, ht, hie, hsz⟩ := arr_spec ha
  simp only [aindexAddr, hu, hie, h0, h1, and_self, if_true, hsz]
theorem aindexAddr_slc {k : IntKind} {i : Int} {len cap by_ : Nat} (ha : slc P t = some (g, m, by_)) (h0 : 0 ≤ i) (h1 : i < len) : aindexAddr P t (.slice (some ⟨b, o, none⟩) len cap) (.int k i) = some (.pointer (some ⟨b, o + i.toNat * m, none⟩)) := by
  obtain ⟨elem, ie, hu, ht, hie, hsz, _⟩ := slc_spec ha
  simp only [aindexAddr, hu, hie, h0, h1, and_self, if_true, hsz]
theorem alen_slc {by_ : Nat} {x : Option Addr} {len cap : Nat} (ha : slc P t = some (g, m, by_)) : alen P h t (.slice x len cap) = some (.int .i64 len) := by
  obtain ⟨elem, ie, hu, _⟩ := slc_spec ha
  simp only [alen, hu]
theorem alen_arr {x : Value} (ha : arr P t = some (n, g, m)) : alen P h t x = some (.int .i64 n) := by
  obtain ⟨elem, ie, hu, _⟩ := arr_spec ha
  simp only [alen, hu]

/-! heaps -/
theorem at_old {H : AH} {x : AObj} (hb : H[b]? = some x) (l : AH) : (H ++ l)[b]? = some x := by
  rw [List.getElem?_append_left (List.getElem?_eq_some_iff.1 hb).1]; exact hb
theorem at_new (H l : AH) (k : Nat) : (H ++ l)[H.length + k]? = l[k]? := by
  rw [List.getElem?_append_right (by omega)]; congr 1; omega
theorem at_new0 (H l : AH) : (H ++ l)[H.length]? = l[0]? := at_new H l 0
theorem set_new (H l : AH) (k : Nat) (x : AObj) : (H ++ l).set (H.length + k) x = H ++ l.set k x := by
  rw [List.set_append_right _ _ (by omega)]; congr 2; omega
theorem set_new0 (H l : AH) (x : AObj) : (H ++ l).set H.length x = H ++ l.set 0 x := set_new H l 0 x
end
end Go.Am
