import Derived.Test.YtibkpodkogclbaaAm8
set_option linter.unusedVariables false
set_option linter.unusedSimpArgs false
/- Numbers, conversions, functions, lengths. -/
namespace Go.Am
open Go

def aint (op : BinOp) (k : IntKind) (a b : Int) : Option Value :=
  match op with
  | .add => some (.int k (k.wrap (a + b)))
  | .sub => some (.int k (k.wrap (a - b)))
  | .mul => some (.int k (k.wrap (a * b)))
  | .quo => if b = 0 then none else some (.int k (k.wrap (a.tdiv b)))
  | .rem => if b = 0 then none else some (.int k (a.tmod b))
  | .and => some (.int k (k.wrap (BitVec.ofInt k.bits a &&& BitVec.ofInt k.bits b).toNat))
  | .or => some (.int k (k.wrap (BitVec.ofInt k.bits a ||| BitVec.ofInt k.bits b).toNat))
  | .xor => some (.int k (k.wrap (BitVec.ofInt k.bits a ^^^ BitVec.ofInt k.bits b).toNat))
  | .andNot => some (.int k (k.wrap (BitVec.ofInt k.bits a &&& ~~~ BitVec.ofInt k.bits b).toNat))
  | .eql => some (.bool (a == b))
  | .neq => some (.bool (a != b))
  | .lss => some (.bool (a < b))
  | .leq => some (.bool (a ≤ b))
  | .gtr => some (.bool (a > b))
  | .geq => some (.bool (a ≥ b))
  | .shl | .shr => none

/-- a result is taken if it is plain -/
def plainOut : Option Value → Option Value
  | some r => if plainB r then some r else none
  | none => none

theorem plainOut_some {o : Option Value} {r : Value} (h : plainOut o = some r) : o = some r ∧ plainB r = true := by
  unfold plainOut at h
  split at h
  · split at h
    · rename_i hp; cases h; exact ⟨rfl, hp⟩
    · cases h
  · cases h

def abinOp (P : Program) (op : BinOp) (t : TypeId) (x y : Operand) (a b : Value) : Option Value :=
  match op, a, b with
  | .shl, .int k a, .int _ b => if b < 0 then none else some (.int k (k.wrap (a * 2 ^ (min b.toNat k.bits))))
  | .shr, .int k a, .int _ b => if b < 0 then none else some (.int k (a.fdiv (2 ^ (min b.toNat k.bits))))
  | op, .int k a, .int k' b => if k = k' then aint op k a b else none
  | op, a, b => if plainB a && plainB b then plainOut (pureRun P (do eqGuard op t x y a b; binOp op t a b)) else none

theorem run_eqGuard_int {P : Program} (w : World) (op : BinOp) (t : TypeId) (x y : Operand) (k k' : IntKind) (a b : Int) : (eqGuard op t x y (.int k a) (.int k' b)).run P w = .ok () w := by
  cases op <;> simp [eqGuard]

theorem run_aint {P : Program} (w : World) (op : BinOp) (t : TypeId) (k : IntKind) (a b : Int) {r : Value} (h : aint op k a b = some r) : (binOp op t (.int k a) (.int k b)).run P w = .ok r w := by
  cases op <;> simp only [aint] at h <;> (try split at h) <;> (first | (simp only [Option.some.injEq] at h; subst h) | cases h) <;>
    (first | (simp [binOp, Op.intArith]; done) | (simp [binOp, Op.intDiv, *]; done) | (simp [binOp, Op.intBits]; done) | (simp [binOp, Op.intCmp]; done))

theorem sound_binOp {P : Program} {f : Nat → Img} {L : Nat} (w : World) (op : BinOp) (t : TypeId) (x y : Operand) {a a' b b' : Value} (ha : VRel f L a a') (hb : VRel f L b b') {r : Value} (h : abinOp P op t x y a b = some r) :
    ∃ r', ((do eqGuard op t x y a' b'; binOp op t a' b') : Sem Value).run P w = .ok r' w ∧ VRel f L r r' := by
  unfold abinOp at h
  split at h
  · rename_i k a b kb
    cases ha.int_inv; cases hb.int_inv
    split at h
    · cases h
    · rename_i hn
      simp only [Option.some.injEq] at h
      subst h
      exact ⟨_, by simp [run_eqGuard_int, binOp, Op.shift, hn], .int _ _⟩
  · rename_i k a b kb
    cases ha.int_inv; cases hb.int_inv
    split at h
    · cases h
    · rename_i hn
      simp only [Option.some.injEq] at h
      subst h
      exact ⟨_, by simp [run_eqGuard_int, binOp, Op.shift, hn], .int _ _⟩
  · rename_i k a k' b _ _
    cases ha.int_inv; cases hb.int_inv
    split at h
    · rename_i hk
      subst hk
      refine ⟨r, by simp only [Sem.run_bind, run_eqGuard_int, Result.andThen_ok, run_aint w op t k a b h], ?_⟩
      cases op <;> simp only [aint] at h <;> (try split at h) <;> (first | (simp only [Option.some.injEq] at h; subst h) | cases h) <;> first | exact .int _ _ | exact .bool _
    · cases h
  · split at h
    · rename_i hp
      simp only [Bool.and_eq_true] at hp
      cases plain_inv hp.1 ha
      cases plain_inv hp.2 hb
      obtain ⟨h1, h2⟩ := plainOut_some h
      exact ⟨r, pureRun_run h1 w, plain_refl h2⟩
    · cases h

def aunOp (P : Program) (op : UnOp) (a : Value) : Option Value :=
  match op, a with
  | .not, .bool b => some (.bool !b)
  | .neg, .int k n => some (.int k (k.wrap (0 - n)))
  | .xor, .int k n => some (.int k (k.wrap (BitVec.ofInt k.bits (if k.signed then -1 else k.max) ^^^ BitVec.ofInt k.bits n).toNat))
  | _, _ => none

theorem sound_unOp {P : Program} {f : Nat → Img} {L : Nat} (w : World) (op : UnOp) {a a' : Value} (ha : VRel f L a a') {r : Value} (h : aunOp P op a = some r) :
    ∃ r', (Op.unary op a').run P w = .ok r' w ∧ VRel f L r r' := by
  unfold aunOp at h
  split at h
  · cases ha.bool_inv; cases h; exact ⟨_, rfl, .bool _⟩
  · cases ha.int_inv; cases h; exact ⟨_, rfl, .int _ _⟩
  · cases ha.int_inv; cases h; exact ⟨_, rfl, .int _ _⟩
  · cases h

def anilCheck (x : Value) : Option Value :=
  match x with
  | .pointer (some a) => some (.pointer (some a))
  | .func (.func F) xs cs => some (.func (.func F) xs cs)
  | .iface t v => some (.iface t v)
  | _ => none

theorem sound_nilCheck {P : Program} {f : Nat → Img} {L : Nat} (w : World) (ρ : Operand → Value) (o : Oper) (x : Operand) (ho : o.op = .nilCheck x) {a : Value} (ha : VRel f L a (ρ x)) {r : Value} (h : anilCheck a = some r) :
    ∃ r', (execOp ρ o).run P w = .ok (.value r') w ∧ VRel f L r r' := by
  unfold anilCheck at h
  split at h
  · rename_i a0
    cases h
    generalize hx : ρ x = y at ha
    cases ha with
    | ptr b o' r o'' hb hr ho' => exact ⟨_, by simp [execOp, ho, hx], .ptr b o' r o'' hb hr ho'⟩
  · rename_i F xs cs
    cases h
    generalize hx : ρ x = y at ha
    cases ha with
    | func fn xs ys cs ds hfn h1 h2 h3 h4 => exact ⟨_, by simp [execOp, ho, hx], .func _ _ _ _ _ hfn h1 h2 h3 h4⟩
  · rename_i t v
    cases h
    generalize hx : ρ x = y at ha
    cases ha with
    | iface t v v' hv => exact ⟨_, by simp [execOp, ho, hx], .iface _ _ _ hv⟩
  · cases h

def aarrayPtr (P : Program) (t : TypeId) (x : Value) : Option Value :=
  match P.underlying t, x with
  | some (.array n _), .slice (some ⟨b, o, none⟩) len _ => if n ≤ len ∧ 0 < len then some (.pointer (some ⟨b, o, none⟩)) else none
  | _, _ => none

theorem sound_arrayPtr {P : Program} {f : Nat → Img} {L : Nat} (w : World) {t : TypeId} {x x' : Value} (hx : VRel f L x x') {r : Value} (h : aarrayPtr P t x = some r) :
    ∃ r', (Instr.arrayAt t x').run P w = .ok r' w ∧ VRel f L r r' := by
  unfold aarrayPtr at h
  split at h
  · rename_i n e b o len cap hu
    split at h
    · rename_i hle
      cases h
      rcases hx.slice_inv with ⟨c', rfl, hb, _⟩ | ⟨h0, _, _, _, _⟩
      · have : ¬ (len < n) := by omega
        exact ⟨_, by simp only [Instr.arrayAt, Sem.run_bind, run_underlying hu, Result.andThen_ok, this, if_false, Sem.run_pure], .ptr b _ _ _ hb rfl rfl⟩
      · omega
    · cases h
  · cases h

def amakeIface (P : Program) (t : TypeId) (x : Value) : Option Value :=
  match P.underlying t with
  | some (.interface _) => none
  | some _ => some (.iface t x)
  | none => none

theorem sound_makeIface {P : Program} {f : Nat → Img} {L : Nat} (w : World) {t : TypeId} {x x' : Value} (hx : VRel f L x x') {r : Value} (h : amakeIface P t x = some r) :
    ∃ r', (Instr.makeInterface t x').run P w = .ok r' w ∧ VRel f L r r' := by
  unfold amakeIface at h
  split at h
  · cases h
  · rename_i d hni hu
    cases h
    refine ⟨.iface t x', ?_, .iface _ _ _ hx⟩
    cases d <;> first
      | (exfalso; exact hni _ rfl)
      | simp only [Instr.makeInterface, Sem.run_bind, run_underlying hu, Result.andThen_ok, Sem.run_pure]
  · cases h

def amakeFunc (fn : Fn) (first captured : Array Value) : Option Value :=
  match fn with
  | .func F => some (.func (.func F) first captured)
  | _ => none

theorem sound_makeFunc {P : Program} {f : Nat → Img} {L : Nat} (w : World) {fn : Fn} {xs ys cs ds : Array Value} (hx : ARel f L xs ys) (hc : ARel f L cs ds) {r : Value} (h : amakeFunc fn xs cs = some r) :
    ∃ r', (Instr.makeFunc fn ys ds).run P w = .ok r' w ∧ VRel f L r r' := by
  unfold amakeFunc at h
  split at h
  · cases h; exact ⟨_, rfl, .func _ _ _ _ _ rfl hx.1 hx.2 hc.1 hc.2⟩
  · cases h

/-! ### lengths -/
def alen (P : Program) (h : AH) (t : TypeId) (x : Value) : Option Value :=
  match P.underlying t, x with
  | some .string, .string s => some (.int .i64 s.size)
  | some (.array n _), _ => some (.int .i64 n)
  | some (.pointer arr), _ => match P.underlying arr with
    | some (.array n _) => some (.int .i64 n)
    | _ => none
  | some (.slice _), .slice _ n _ => some (.int .i64 n)
  | some (.map _ _), .map none => some (.int .i64 0)
  | some (.map _ _), .map (some b) => match h[b]? with
    | some (.map es _) => some (.int .i64 es.size)
    | _ => none
  | _, _ => none

theorem run_getObj_map {P : Program} {w : World} {r : Nat} {es : Array MapEntry} {c : Nat} (h : w.heap[r]? = some (.map es c)) : (getObj r).run P w = .ok (.map es c) w := by
  simp only [getObj, Sem.run, h]

theorem VRel.map_inv {f : Nat → Img} {L : Nat} {b : Nat} {v' : Value} (h : VRel f L (.map (some b)) v') : v' = .map (some (f b).blk) ∧ b < L := by
  generalize hv : Value.map (some b) = v at h
  cases h with
  | map b' r hb hr => cases hv; subst hr; exact ⟨rfl, hb⟩
  | junk => simp [Am.junk] at hv
  | _ => cases hv

theorem sound_len {P : Program} {f : Nat → Img} {h : AH} {w : World} (hs : Sim P f h w) {ts : Array TypeId} {t ty : TypeId} (h0 : ts[0]? = some t) {x x' : Value} (hx : VRel f h.length x x') {r : Value} (ha : alen P h t x = some r) :
    ∃ r', (Builtin.len_ ts ty #[x']).run P w = .ok r' w ∧ VRel f h.length r r' := by
  unfold alen at ha
  split at ha
  · rename_i s hu
    cases hx.string_inv; cases ha
    exact ⟨_, by simp only [Builtin.len_, h0, List.getElem?_toArray, List.getElem?_cons_zero, Sem.run_bind, run_underlying hu, Result.andThen_ok, Sem.run_pure, goInt], .int _ _⟩
  · rename_i n e hu
    cases ha
    exact ⟨_, by simp only [Builtin.len_, h0, List.getElem?_toArray, List.getElem?_cons_zero, Sem.run_bind, run_underlying hu, Result.andThen_ok, Sem.run_pure, goInt], .int _ _⟩
  · rename_i arr hu
    split at ha
    · rename_i n e hu2
      cases ha
      exact ⟨_, by simp only [Builtin.len_, h0, List.getElem?_toArray, List.getElem?_cons_zero, Sem.run_bind, run_underlying hu, run_underlying hu2, Result.andThen_ok, Sem.run_pure, goInt], .int _ _⟩
    · cases ha
  · rename_i e a n c hu
    cases ha
    have : ∃ a' c', x' = .slice a' n c' := by
      cases hx with
      | nilSlice => exact ⟨_, _, rfl⟩
      | slice => exact ⟨_, _, rfl⟩
      | slice0 => exact ⟨_, _, rfl⟩
    obtain ⟨a', c', rfl⟩ := this
    exact ⟨_, by simp only [Builtin.len_, h0, List.getElem?_toArray, List.getElem?_cons_zero, Sem.run_bind, run_underlying hu, Result.andThen_ok, Sem.run_pure, goInt], .int _ _⟩
  · rename_i kt et hu
    cases ha
    have hx' : x' = .map none := plain_inv rfl hx
    subst hx'
    exact ⟨_, by simp only [Builtin.len_, h0, List.getElem?_toArray, List.getElem?_cons_zero, Sem.run_bind, run_underlying hu, Result.andThen_ok, Sem.run_pure, goInt], .int _ _⟩
  · rename_i kt et b hu
    split at ha
    · rename_i es clk hb
      cases ha
      obtain ⟨rfl, hbL⟩ := hx.map_inv
      obtain ⟨o', ho', es', rfl, h2, h3⟩ := hs.obj b _ hb rfl
      exact ⟨.int .i64 es'.size, by simp only [Builtin.len_, h0, List.getElem?_toArray, List.getElem?_cons_zero, Sem.run_bind, run_underlying hu, Result.andThen_ok, run_getObj_map ho', Sem.run_pure, goInt], by rw [h2]; exact .int _ _⟩
    · cases ha
  · cases ha

/-! ### conversions -/
def bytesIn (cs : List Value) : Option (List UInt8) :=
  match cs with
  | [] => some []
  | .int .u8 n :: r => (bytesIn r).map (UInt8.ofNat n.toNat :: ·)
  | _ :: _ => none

theorem freeze_new (w : World) (c : Array Value) (e : TypeId) : (w.alloc (.cells c e)).freeze ⟨w.heap.size, c.size, none⟩ 1 = w.alloc (.cells c e (c.size, c.size + 1)) := by
  unfold World.freeze World.alloc
  simp only [Nat.one_ne_zero, if_false]
  congr 1
  apply Array.ext
  · simp
  · intro i h1 h2
    simp only [Array.getElem_modify, Array.getElem_push]
    simp at h2
    by_cases hi : i < w.heap.size
    · have : ¬ (w.heap.size = i) := by omega
      simp [hi, this]
    · have : i = w.heap.size := by omega
      subst this
      simp

def bcells (s : ByteArray) : Array Value := s.data.map fun (b : UInt8) => Value.int .u8 b.toNat
theorem bcells_crel {f : Nat → Img} {L : Nat} (s : ByteArray) : CRel f L (bcells s) (bcells s) := bytes_crel s
theorem size_bcells (s : ByteArray) : (bcells s).size = s.size := by simp only [bcells, Array.size_map]; rfl

theorem sound_stringToBytes {P : Program} {f : Nat → Img} {h : AH} {w : World} (hs : Sim P f h w) (e : TypeId) (s : ByteArray) :
    ∃ f1 r' w1, (Conv.stringToBytes e s).run P w = .ok r' w1 ∧ Step P f h w f1 (h ++ [.cells (bcells s) 1 true]) w1 ∧ VRel f1 (h.length + 1) (.slice (some ⟨h.length, 0, none⟩) s.size s.size) r' := by
  have hcap : ∃ cap, s.size ≤ cap ∧ (choose (.appendCap s.size 0 e)).run P w = .ok cap w.drew := by
    refine ⟨(Question.appendCap s.size 0 e).cut (w.tape w.drawn (.appendCap s.size 0 e)), ?_, ?_⟩
    · simp [Question.cut]
    · rw [run_choose]; simp [Question.forced]
  obtain ⟨cap, h1, h2⟩ := hcap
  have hcr := bcells_crel (f := f) (L := h.length) s
  have hsz := size_bcells s
  have hsd : Sim P f h w.drew := hs.congr rfl
  obtain ⟨C, hC⟩ : ∃ C, C = bcells s ++ Array.replicate (cap - s.size) (Value.int .u8 0) := ⟨_, rfl⟩
  have hCs : C.size = cap := by rw [hC]; simp only [Array.size_append, hsz, Array.size_replicate]; omega
  have halloc := Step.alloc hsd (.cells (bcells s) 1 true) (.cells C e (C.size, C.size + 1))
    ⟨w.drew.heap.size, 0, s.size, cap, 1⟩ rfl (by
      refine ⟨_, _, _, rfl, hsz, rfl, by simp only; omega, fun _ => ⟨by simp only [hCs]; omega, fun i hi => by simp only [Bool.and_eq_false_iff, decide_eq_false_iff_not]; left; omega⟩,
        by simp only [hCs]; omega, fun i hi => ?_⟩
      simp only [Nat.zero_add]
      rw [hC, getD_append_left' _ _ _ hi]
      exact hcr.2 i)
  refine ⟨_, .slice (some ⟨w.heap.size, 0, none⟩) s.size cap, _, ?_, Step.after_drew hs halloc, ?_⟩
  · have e0 : ((s.data.map fun (b : UInt8) => Value.int .u8 b.toNat) ++ Array.replicate (cap - s.size) (Value.int .u8 0)) = C := hC.symm
    have e2 : (w.drew.alloc (.cells C e)).shape? w.drew.heap.size = some (e, C.size) := by
      simp only [World.shape?, heap_alloc_new]
    simp only [Conv.stringToBytes, Sem.run_bind, h2, Result.andThen_ok, newRow, run_newObj, Sem.run_pure, markStringish, e0, World.alloc_eq]
    simp only [run_shape, Result.andThen_ok, e2, run_freeze, freeze_new, Sem.run_bind, Sem.run_pure]
    rfl
  · refine .slice h.length 0 _ _ _ _ _ (by omega) ?_ ?_ (.inr ⟨?_, ?_, ?_, h1⟩)
    · rw [upd_eq]; rfl
    · rw [upd_eq]
    · rw [upd_eq]; simp
    · rw [upd_eq]; simp
    · rw [upd_eq]; simp

theorem bytesIn_length (cs : List Value) : ∀ {l : List UInt8}, bytesIn cs = some l → l.length = cs.length := by
  induction cs with
  | nil => intro l h; simp [bytesIn] at h; subst h; rfl
  | cons v r ih =>
    intro l h
    cases v with
    | int k n =>
      cases k <;> simp [bytesIn] at h
      obtain ⟨l', h1, rfl⟩ := h
      simp [ih h1]
    | _ => simp [bytesIn] at h

theorem run_forIn_bytes {P : Program} {f : Nat → Img} {L : Nat} (w : World) (g : Value → ByteArray → Sem (ForInStep ByteArray)) (hg : ∀ n s, (g (.int .u8 n) s).run P w = .ok (.yield (s.push (UInt8.ofNat n.toNat))) w)
    (cs : List Value) : ∀ (ds : List Value) (l : List UInt8) (s : ByteArray), cs.length = ds.length → (∀ i : Nat, VRel f L (cs.getD i Am.junk) (ds.getD i Am.junk)) → bytesIn cs = some l →
    (forIn ds s g).run P w = .ok ⟨s.data ++ l.toArray⟩ w := by
  induction cs with
  | nil =>
    intro ds l s hl hr h
    cases ds with
    | nil => simp [bytesIn] at h; subst h; simp
    | cons => simp at hl
  | cons v r ih =>
    intro ds l s hl hr h
    cases ds with
    | nil => simp at hl
    | cons d ds =>
      cases v with
      | int k n =>
        cases k <;> simp [bytesIn] at h
        obtain ⟨l', h1, rfl⟩ := h
        have h0 := (hr 0)
        simp only [List.getD_cons_zero] at h0
        cases h0.int_inv
        have := ih ds l' (s.push (UInt8.ofNat n.toNat)) (by simpa using hl) (fun i => by simpa using hr (i + 1)) h1
        simp only [List.forIn_cons, Sem.run_bind, hg, Result.andThen_ok]
        rw [this]
        congr 1
        apply ByteArray.ext
        simp [ByteArray.data_push]
      | _ => simp [bytesIn] at h

def aconvert (P : Program) (h : AH) (src dst : TypeId) (x : Value) : Option (Value × AH) :=
  match P.underlying src, P.underlying dst, x with
  | some _, some (.int k), .int _ n => some (.int k (k.wrap n), h)
  | some _, some .string, .string s => some (.string s, h)
  | some .string, some (.slice e), .string s => match P.underlying e with
    | some (.int .u8) => some (.slice (some ⟨h.length, 0, none⟩) s.size s.size, h ++ [.cells (bcells s) 1 true])
    | _ => none
  | some (.slice e), some .string, .slice none _ _ => match P.underlying e with
    | some (.int .u8) => some (.string .empty, h)
    | _ => none
  | some (.slice e), some .string, .slice (some ⟨b, o, none⟩) len cap => match P.underlying e with
    | some (.int .u8) => if len = 0 then some (.string .empty, h) else match h[b]? with
      | some (.cells c _ _) => if o + len ≤ c.size then (bytesIn (c.extract o (o + len)).toList).map fun l => (.string ⟨l.toArray⟩, h) else none
      | _ => none
    | _ => none
  | _, _, _ => none


theorem sound_convert {P : Program} {f : Nat → Img} {h : AH} {w : World} (hs : Sim P f h w) {src dst : TypeId} {x x' : Value} (hx : VRel f h.length x x') {r : Value} {h1 : AH} (ha : aconvert P h src dst x = some (r, h1)) :
    ∃ f1 r' w1, (convert src dst x').run P w = .ok r' w1 ∧ Step P f h w f1 h1 w1 ∧ VRel f1 h1.length r r' := by
  unfold aconvert at ha
  split at ha
  · rename_i d k k0 n hu hv
    cases hx.int_inv
    cases ha
    exact ⟨f, _, w, by simp only [convert, Sem.run_bind, run_underlying hu, run_underlying hv, Result.andThen_ok, Conv.intToInt, Sem.run_pure], Step.refl hs, .int _ _⟩
  · rename_i d s hu hv
    cases hx.string_inv
    cases ha
    refine ⟨f, _, w, ?_, Step.refl hs, .string _⟩
    cases d <;> simp only [convert, Sem.run_bind, run_underlying hu, run_underlying hv, Result.andThen_ok, Sem.run_pure]
  · rename_i e s hu hv
    cases hx.string_inv
    split at ha
    · rename_i he
      cases ha
      obtain ⟨f1, r', w1, g1, g2, g3⟩ := sound_stringToBytes hs e s
      refine ⟨f1, r', w1, ?_, g2, by simpa using g3⟩
      simp only [convert, Sem.run_bind, run_underlying hu, run_underlying hv, run_underlying he, Result.andThen_ok, g1]
    · cases ha
  · rename_i e l c hu hv
    split at ha
    · rename_i he
      cases ha
      have hx' : x' = .slice none l c := plain_inv rfl hx
      subst hx'
      refine ⟨f, _, w, ?_, Step.refl hs, .string _⟩
      simp only [convert, Sem.run_bind, run_underlying hu, run_underlying hv, run_underlying he, Result.andThen_ok, Conv.bytesToString, Sem.run_pure]
    · cases ha
  · rename_i e b o len cap hu hv
    split at ha
    · rename_i he
      split at ha
      · rename_i h0
        subst h0
        cases ha
        have key : ∀ (a' : Addr) (c' : Nat), (convert src dst (.slice (some a') 0 c')).run P w = .ok (.string .empty) w := by
          intro a' c'
          simp only [convert, Sem.run_bind, run_underlying hu, run_underlying hv, run_underlying he, Result.andThen_ok, Conv.bytesToString, run_loadCells_zero]
          rfl
        rcases hx.slice_inv with ⟨c', rfl, _, _⟩ | ⟨_, _, a', rfl, _⟩
        · exact ⟨f, _, w, key _ _, Step.refl hs, .string _⟩
        · exact ⟨f, _, w, key _ _, Step.refl hs, .string _⟩
      · rename_i hnz
        split at ha
        · rename_i c es rw hb
          split at ha
          · rename_i hle
            simp only [Option.map_eq_some_iff, Prod.mk.injEq] at ha
            obtain ⟨l, hl, rfl, rfl⟩ := ha
            rcases hx.slice_inv with ⟨c', rfl, _, _⟩ | ⟨h0, _, _, _, _⟩
            · obtain ⟨ds, g1, g2, g3, g4⟩ := hs.loadCells hb o len hle
              refine ⟨f, .string ⟨l.toArray⟩, w, ?_, Step.refl hs, .string _⟩
              simp only [convert, Sem.run_bind, run_underlying hu, run_underlying hv, run_underlying he, Result.andThen_ok, Conv.bytesToString, g1]
              rw [← Array.forIn_toList]
              have hrel : ∀ i : Nat, VRel f h.length ((c.extract o (o + len)).toList.getD i Am.junk) (ds.toList.getD i Am.junk) := fun i => by
                have := g3 i
                rw [Array.getD_eq_getD_getElem?, Array.getD_eq_getD_getElem?, ← Array.getElem?_toList, ← Array.getElem?_toList] at this
                exact this
              rw [run_forIn_bytes (P := P) (f := f) (L := h.length) w _ ?hg (c.extract o (o + len)).toList ds.toList l .empty (by simp; omega) hrel hl]
              · simp only [Result.andThen_ok, Sem.run_pure]
                congr 2
                apply ByteArray.ext
                simp
              · intro n s
                rfl
            · exact absurd h0 hnz
          · cases ha
        · cases ha
    · cases ha
  · cases ha

end Go.Am
