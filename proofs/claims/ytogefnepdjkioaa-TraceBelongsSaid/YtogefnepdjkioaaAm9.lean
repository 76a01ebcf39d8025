import Derived.Test.YtogefnepdjkioaaAm8
set_option linter.unusedVariables false
set_option linter.unusedSimpArgs false
/- Numbers, conversions, functions, lengths. -/
namespace Go.Am
open Go

def aint (op : BinOp) (k : IntKind) (a b : Int) : Option Value :=
  match op with
  | .add => some (.int k (k.wrap (a + b)))
  | .sub => some (.int k (k.wrap (a - b)))
  | .mul => some (.int k (k.wrap (a * b)))
  | .quo => if b = 0 then none else some (.int k (k.wrap (a.tdiv b)))
  | .rem => if b = 0 then none else some (.int k (a.tmod b))
  | .and => some (.int k (k.wrap (BitVec.ofInt k.bits a &&& BitVec.ofInt k.bits b).toNat))
  | .or => some (.int k (k.wrap (BitVec.ofInt k.bits a ||| BitVec.ofInt k.bits b).toNat))
  | .xor => some (.int k (k.wrap (BitVec.ofInt k.bits a ^^^ BitVec.ofInt k.bits b).toNat))
  | .andNot => some (.int k (k.wrap (BitVec.ofInt k.bits a &&& ~~~ BitVec.ofInt k.bits b).toNat))
  | .eql => some (.bool (a == b))
  | .neq => some (.bool (a != b))
  | .lss => some (.bool (a < b))
  | .leq => some (.bool (a ≤ b))
  | .gtr => some (.bool (a > b))
  | .geq => some (.bool (a ≥ b))
  | .shl | .shr => none

/-- a result is taken if it is plain -/
def plainOut : Option Value → Option Value
  | some r => if plainB r then some r else none
  | none => none

theorem plainOut_some {o : Option Value} {r : Value} (h : plainOut o = some r) : o = some r ∧ plainB r = true := by
  unfold plainOut at h
  split at h
  · split at h
    · rename_i hp; cases h; exact ⟨rfl, hp⟩
    · cases h
  · cases h

/-- is it nil? -/
def nilV (d : TypeDesc) (v : Value) : Option Bool :=
  match d, v with
  | .slice _, .slice none _ _ => some true
  | .slice _, .slice (some _) _ _ => some false
  | .slice _, .func (.yield 0) _ _ => some false
  | .pointer _, .pointer none => some true
  | .pointer _, .pointer (some _) => some false
  | .pointer _, .func (.yield 1) _ _ => some false
  | .map _ _, .map none => some true
  | .map _ _, .map (some _) => some false
  | .func _ _ _, .nilFunc => some true
  | .func _ _ _, .func (.func _) _ _ => some false
  | .interface _, .nilIface => some true
  | .interface _, .iface _ _ => some false
  | _, _ => none

/-- one of the two is nil, the other one is not -/
def nilCmp (P : Program) (op : BinOp) (t : TypeId) (a b : Value) : Option Value :=
  match P.underlying t with
  | some d => match nilV d a, nilV d b with
    | some x, some y => if x = y then none else (match op with
      | .eql => some (.bool false)
      | .neq => some (.bool true)
      | _ => none)
    | _, _ => none
  | none => none

/-- is it nil? (of the world's values) -/
def nilR (d : TypeDesc) (v : Value) : Option Bool :=
  match d, v with
  | .slice _, .slice a _ _ => some a.isNone
  | .pointer _, .pointer a => some a.isNone
  | .map _ _, .map a => some a.isNone
  | .func _ _ _, .nilFunc => some true
  | .func _ _ _, .func _ _ _ => some false
  | .interface _, .nilIface => some true
  | .interface _, .iface _ _ => some false
  | _, _ => none

theorem nilV_rel {d : TypeDesc} {f : Emb} {L : Nat} {v v' : Value} {x : Bool} (h : nilV d v = some x) (r : VRel f L v v') : nilR d v' = some x := by
  cases r with
  | junk => cases d <;> simp [nilV, junk] at h
  | func fn xs ys cs ds hfn => cases fn <;> first | (cases hfn; done) | (cases d <;> first | (cases h; done) | exact h)
  | fz => cases d <;> first | (cases h; done) | exact h
  | fz0 => cases d <;> first | (cases h; done) | exact h
  | fp => cases d <;> first | (cases h; done) | exact h
  | _ => cases d <;> first | (cases h; done) | exact h

inductive Mixed : TypeDesc → Value → Value → Prop
  | s1 (e : TypeId) (l c : Nat) (q : Addr) (l' c' : Nat) : Mixed (.slice e) (.slice none l c) (.slice (some q) l' c')
  | s2 (e : TypeId) (l c : Nat) (q : Addr) (l' c' : Nat) : Mixed (.slice e) (.slice (some q) l' c') (.slice none l c)
  | p1 (e : TypeId) (q : Addr) : Mixed (.pointer e) (.pointer none) (.pointer (some q))
  | p2 (e : TypeId) (q : Addr) : Mixed (.pointer e) (.pointer (some q)) (.pointer none)
  | m1 (k e : TypeId) (q : Nat) : Mixed (.map k e) (.map none) (.map (some q))
  | m2 (k e : TypeId) (q : Nat) : Mixed (.map k e) (.map (some q)) (.map none)
  | f1 (p r : Array TypeId) (v : Bool) (fn : Fn) (xs ys : Array Value) : Mixed (.func p r v) .nilFunc (.func fn xs ys)
  | f2 (p r : Array TypeId) (v : Bool) (fn : Fn) (xs ys : Array Value) : Mixed (.func p r v) (.func fn xs ys) .nilFunc
  | i1 (d : TypeDesc) (hd : ∃ ms, d = .interface ms) (t : TypeId) (v : Value) : Mixed d .nilIface (.iface t v)
  | i2 (d : TypeDesc) (hd : ∃ ms, d = .interface ms) (t : TypeId) (v : Value) : Mixed d (.iface t v) .nilIface

theorem mixed_of {d : TypeDesc} {a b : Value} {x y : Bool} (ha : nilR d a = some x) (hb : nilR d b = some y) (hxy : x ≠ y) : Mixed d a b := by
  have two : ∀ {α : Type} (p q : Option α), some p.isNone = some x → some q.isNone = some y → (p = none ∧ q.isSome = true) ∨ (p.isSome = true ∧ q = none) := by
    intro α p q h1 h2
    cases p <;> cases q <;> cases h1 <;> cases h2 <;> first | exact absurd rfl hxy | exact .inl ⟨rfl, rfl⟩ | exact .inr ⟨rfl, rfl⟩
  cases d with
  | slice el =>
    cases a <;> first | (cases ha; done) | skip
    cases b <;> first | (cases hb; done) | skip
    rename_i p _ _ q _ _
    rcases two p q ha hb with ⟨rfl, h⟩ | ⟨h, rfl⟩
    · cases q <;> first | (cases h; done) | exact .s1 ..
    · cases p <;> first | (cases h; done) | exact .s2 ..
  | pointer el =>
    cases a <;> first | (cases ha; done) | skip
    cases b <;> first | (cases hb; done) | skip
    rename_i p q
    rcases two p q ha hb with ⟨rfl, h⟩ | ⟨h, rfl⟩
    · cases q <;> first | (cases h; done) | exact .p1 ..
    · cases p <;> first | (cases h; done) | exact .p2 ..
  | map k el =>
    cases a <;> first | (cases ha; done) | skip
    cases b <;> first | (cases hb; done) | skip
    rename_i p q
    rcases two p q ha hb with ⟨rfl, h⟩ | ⟨h, rfl⟩
    · cases q <;> first | (cases h; done) | exact .m1 ..
    · cases p <;> first | (cases h; done) | exact .m2 ..
  | func p r v =>
    cases a <;> first | (cases ha; done) | skip
    all_goals (cases b <;> first | (cases hb; done) | skip)
    all_goals first | exact .f1 .. | exact .f2 .. | (cases ha; cases hb; exact absurd rfl hxy)
  | interface ms =>
    cases a <;> first | (cases ha; done) | skip
    all_goals (cases b <;> first | (cases hb; done) | skip)
    all_goals first | (cases ha; cases hb; exact absurd rfl hxy) | exact .i1 _ ⟨_, rfl⟩ .. | exact .i2 _ ⟨_, rfl⟩ ..
  | _ => cases ha

theorem mixed_equal {P : Program} {t : TypeId} {d : TypeDesc} (hu : P.underlying t = some d) {a b : Value} (m : Mixed d a b) (w : World) :
    (Op.equal t a b).run P w = .ok false w := by
  have e : Op.equal t a b = Op.equalIn (9999 + 1) t a b := rfl
  rw [e]
  unfold Op.equalIn
  simp only [Sem.run_bind, run_underlying hu, Result.andThen_ok]
  cases m with
  | i1 _ hd _ _ => obtain ⟨ms, rfl⟩ := hd; rfl
  | i2 _ hd _ _ => obtain ⟨ms, rfl⟩ := hd; rfl
  | _ => rfl

theorem nilCmp_sound {P : Program} {op : BinOp} {t : TypeId} {x y : Operand} {f : Emb} {L : Nat} {a b a' b' : Value} {r : Value} (h : nilCmp P op t a b = some r) (ra : VRel f L a a') (rb : VRel f L b b') (w : World) :
    ((do eqGuard op t x y a' b'; binOp op t a' b') : Sem Value).run P w = .ok r w ∧ plainB r = true := by
  unfold nilCmp at h
  split at h
  case h_2 => cases h
  rename_i d hu
  split at h
  case h_2 => cases h
  rename_i u v hu1 hv1
  split at h
  · cases h
  rename_i hne
  have m := mixed_of (nilV_rel hu1 ra) (nilV_rel hv1 rb) hne
  have e := mixed_equal hu m w
  split at h <;> cases h
  all_goals
    refine ⟨?_, rfl⟩
    cases m
    all_goals
      simp only [Sem.run_bind, eqGuard, Bool.not_true, Bool.false_eq_true, if_false, Sem.run_pure, Result.andThen_ok, binOp, e, Bool.not_false]

def abinOp (P : Program) (op : BinOp) (t : TypeId) (x y : Operand) (a b : Value) : Option Value :=
  match op, a, b with
  | .shl, .int k a, .int _ b => if b < 0 then none else some (.int k (k.wrap (a * 2 ^ (min b.toNat k.bits))))
  | .shr, .int k a, .int _ b => if b < 0 then none else some (.int k (a.fdiv (2 ^ (min b.toNat k.bits))))
  | op, .int k a, .int k' b => if k = k' then aint op k a b else none
  | op, a, b => if plainB a && plainB b then plainOut (pureRun P (do eqGuard op t x y a b; binOp op t a b)) else nilCmp P op t a b

theorem run_eqGuard_int {P : Program} (w : World) (op : BinOp) (t : TypeId) (x y : Operand) (k k' : IntKind) (a b : Int) : (eqGuard op t x y (.int k a) (.int k' b)).run P w = .ok () w := by
  cases op <;> simp [eqGuard]

theorem run_aint {P : Program} (w : World) (op : BinOp) (t : TypeId) (k : IntKind) (a b : Int) {r : Value} (h : aint op k a b = some r) : (binOp op t (.int k a) (.int k b)).run P w = .ok r w := by
  cases op <;> simp only [aint] at h <;> (try split at h) <;> (first | (simp only [Option.some.injEq] at h; subst h) | cases h) <;>
    (first | (simp [binOp, Op.intArith]; done) | (simp [binOp, Op.intDiv, *]; done) | (simp [binOp, Op.intBits]; done) | (simp [binOp, Op.intCmp]; done))

theorem sound_binOp {P : Program} {f : Emb} {L : Nat} (w : World) (op : BinOp) (t : TypeId) (x y : Operand) {a a' b b' : Value} (ha : VRel f L a a') (hb : VRel f L b b') {r : Value} (h : abinOp P op t x y a b = some r) :
    ∃ r', ((do eqGuard op t x y a' b'; binOp op t a' b') : Sem Value).run P w = .ok r' w ∧ VRel f L r r' := by
  unfold abinOp at h
  split at h
  · rename_i k a b kb
    cases ha.int_inv; cases hb.int_inv
    split at h
    · cases h
    · rename_i hn
      simp only [Option.some.injEq] at h
      subst h
      exact ⟨_, by simp [run_eqGuard_int, binOp, Op.shift, hn], .int _ _⟩
  · rename_i k a b kb
    cases ha.int_inv; cases hb.int_inv
    split at h
    · cases h
    · rename_i hn
      simp only [Option.some.injEq] at h
      subst h
      exact ⟨_, by simp [run_eqGuard_int, binOp, Op.shift, hn], .int _ _⟩
  · rename_i k a k' b _ _
    cases ha.int_inv; cases hb.int_inv
    split at h
    · rename_i hk
      subst hk
      refine ⟨r, by simp only [Sem.run_bind, run_eqGuard_int, Result.andThen_ok, run_aint w op t k a b h], ?_⟩
      cases op <;> simp only [aint] at h <;> (try split at h) <;> (first | (simp only [Option.some.injEq] at h; subst h) | cases h) <;> first | exact .int _ _ | exact .bool _
    · cases h
  · split at h
    · rename_i hp
      simp only [Bool.and_eq_true] at hp
      cases plain_inv hp.1 ha
      cases plain_inv hp.2 hb
      obtain ⟨h1, h2⟩ := plainOut_some h
      exact ⟨r, pureRun_run h1 w, plain_refl h2⟩
    · obtain ⟨h1, h2⟩ := nilCmp_sound (x := x) (y := y) h ha hb w
      exact ⟨r, h1, plain_refl h2⟩

def aunOp (P : Program) (op : UnOp) (a : Value) : Option Value :=
  match op, a with
  | .not, .bool b => some (.bool !b)
  | .neg, .int k n => some (.int k (k.wrap (0 - n)))
  | .xor, .int k n => some (.int k (k.wrap (BitVec.ofInt k.bits (if k.signed then -1 else k.max) ^^^ BitVec.ofInt k.bits n).toNat))
  | _, _ => none

theorem sound_unOp {P : Program} {f : Emb} {L : Nat} (w : World) (op : UnOp) {a a' : Value} (ha : VRel f L a a') {r : Value} (h : aunOp P op a = some r) :
    ∃ r', (Op.unary op a').run P w = .ok r' w ∧ VRel f L r r' := by
  unfold aunOp at h
  split at h
  · cases ha.bool_inv; cases h; exact ⟨_, rfl, .bool _⟩
  · cases ha.int_inv; cases h; exact ⟨_, rfl, .int _ _⟩
  · cases ha.int_inv; cases h; exact ⟨_, rfl, .int _ _⟩
  · cases h

def anilCheck (x : Value) : Option Value :=
  match x with
  | .pointer (some a) => some (.pointer (some a))
  | .func (.func F) xs cs => some (.func (.func F) xs cs)
  | .iface t v => some (.iface t v)
  | .func (.yield 1) xs cs => some (.func (.yield 1) xs cs)
  | _ => none

theorem sound_nilCheck {P : Program} {f : Emb} {L : Nat} (w : World) (ρ : Operand → Value) (o : Oper) (x : Operand) (ho : o.op = .nilCheck x) {a : Value} (ha : VRel f L a (ρ x)) {r : Value} (h : anilCheck a = some r) :
    ∃ r', (execOp ρ o).run P w = .ok (.value r') w ∧ VRel f L r r' := by
  unfold anilCheck at h
  split at h
  · rename_i a0
    cases h
    generalize hx : ρ x = y at ha
    cases ha with
    | ptr b o' r o'' hb hr ho' => exact ⟨_, by simp [execOp, ho, hx], .ptr b o' r o'' hb hr ho'⟩
  · rename_i F xs cs
    cases h
    generalize hx : ρ x = y at ha
    cases ha with
    | func fn xs ys cs ds hfn h1 h2 h3 h4 => exact ⟨_, by simp [execOp, ho, hx], .func _ _ _ _ _ hfn h1 h2 h3 h4⟩
  · rename_i t v
    cases h
    generalize hx : ρ x = y at ha
    cases ha with
    | iface t v v' hv => exact ⟨_, by simp [execOp, ho, hx], .iface _ _ _ hv⟩
  · rename_i xs cs
    cases h
    generalize hx : ρ x = y at ha
    have ha0 := ha
    obtain ⟨k, r, o', ds, rfl, rfl, _⟩ := ha.fp_inv
    exact ⟨_, by simp [execOp, ho, hx], ha0⟩
  · cases h

def aarrayPtr (P : Program) (t : TypeId) (x : Value) : Option Value :=
  match P.underlying t, x with
  | some (.array n _), .slice (some ⟨b, o, none⟩) len _ => if n ≤ len ∧ 0 < len then some (.pointer (some ⟨b, o, none⟩)) else none
  | some (.array n _), .func (.yield 0) cs ks => match fzN ks with
    | some len => if n ≤ len ∧ 0 < len then some (fp cs 0) else none
    | none => none
  | _, _ => none

theorem sound_arrayPtr {P : Program} {f : Emb} {L : Nat} (w : World) {t : TypeId} {x x' : Value} (hx : VRel f L x x') {r : Value} (h : aarrayPtr P t x = some r) :
    ∃ r', (Instr.arrayAt t x').run P w = .ok r' w ∧ VRel f L r r' := by
  unfold aarrayPtr at h
  split at h
  · rename_i n e b o len cap hu
    split at h
    · rename_i hle
      cases h
      rcases hx.slice_inv with ⟨c', rfl, hb, _⟩ | ⟨h0, _, _, _, _⟩
      · have : ¬ (len < n) := by omega
        exact ⟨_, by simp only [Instr.arrayAt, Sem.run_bind, run_underlying hu, Result.andThen_ok, this, if_false, Sem.run_pure], .ptr b _ _ _ hb rfl rfl⟩
      · omega
    · cases h
  · rename_i n e cs ks hu
    obtain ⟨n0, rfl, hcz⟩ := hx.fz_inv
    rw [fzN_lit] at h
    simp only at h
    split at h
    · rename_i hle
      cases h
      rcases hcz with ⟨r0, o0, c0, ds, rfl, hrom, hle2, hn, hxy, hone⟩ | ⟨rfl, _⟩
      · have : ¬ (n0 < n) := by omega
        exact ⟨_, by simp only [Instr.arrayAt, Sem.run_bind, run_underlying hu, Result.andThen_ok, this, if_false, Sem.run_pure]; rfl, .fp cs 0 r0 o0 _ ds hrom hle2 rfl hxy hone⟩
      · omega
    · cases h
  · cases h

def amakeIface (P : Program) (t : TypeId) (x : Value) : Option Value :=
  match P.underlying t with
  | some (.interface _) => none
  | some _ => some (.iface t x)
  | none => none

theorem sound_makeIface {P : Program} {f : Emb} {L : Nat} (w : World) {t : TypeId} {x x' : Value} (hx : VRel f L x x') {r : Value} (h : amakeIface P t x = some r) :
    ∃ r', (Instr.makeInterface t x').run P w = .ok r' w ∧ VRel f L r r' := by
  unfold amakeIface at h
  split at h
  · cases h
  · rename_i d hni hu
    cases h
    refine ⟨.iface t x', ?_, .iface _ _ _ hx⟩
    cases d <;> first
      | (exfalso; exact hni _ rfl)
      | simp only [Instr.makeInterface, Sem.run_bind, run_underlying hu, Result.andThen_ok, Sem.run_pure]
  · cases h

def amakeFunc (fn : Fn) (first captured : Array Value) : Option Value :=
  match fn with
  | .func F => some (.func (.func F) first captured)
  | _ => none

theorem sound_makeFunc {P : Program} {f : Emb} {L : Nat} (w : World) {fn : Fn} {xs ys cs ds : Array Value} (hx : ARel f L xs ys) (hc : ARel f L cs ds) {r : Value} (h : amakeFunc fn xs cs = some r) :
    ∃ r', (Instr.makeFunc fn ys ds).run P w = .ok r' w ∧ VRel f L r r' := by
  unfold amakeFunc at h
  split at h
  · cases h; exact ⟨_, rfl, .func _ _ _ _ _ rfl hx.1 hx.2 hc.1 hc.2⟩
  · cases h

/-! ### lengths -/
def alen (P : Program) (h : AH) (t : TypeId) (x : Value) : Option Value :=
  match P.underlying t, x with
  | some .string, .string s => some (.int .i64 s.size)
  | some (.array n _), _ => some (.int .i64 n)
  | some (.pointer arr), _ => match P.underlying arr with
    | some (.array n _) => some (.int .i64 n)
    | _ => none
  | some (.slice _), .slice _ n _ => some (.int .i64 n)
  | some (.slice _), .func (.yield 0) _ ks => match fzN ks with
    | some n => some (.int .i64 n)
    | none => none
  | some (.map _ _), .map none => some (.int .i64 0)
  | some (.map _ _), .map (some b) => match h[b]? with
    | some (.map _ es _) => some (.int .i64 es.size)
    | _ => none
  | _, _ => none

theorem run_getObj_map {P : Program} {w : World} {r : Nat} {es : Array MapEntry} {c : Nat} (h : w.heap[r]? = some (.map es c)) : (getObj r).run P w = .ok (.map es c) w := by
  simp only [getObj, Sem.run, h]

theorem VRel.map_inv {f : Emb} {L : Nat} {b : Nat} {v' : Value} (h : VRel f L (.map (some b)) v') : v' = .map (some (f b).blk) ∧ b < L := by
  generalize hv : Value.map (some b) = v at h
  cases h with
  | map b' r hb hr => cases hv; subst hr; exact ⟨rfl, hb⟩
  | junk => simp [Am.junk] at hv
  | _ => cases hv

theorem sound_len {P : Program} {f : Emb} {h : AH} {w : World} (hs : Sim P f h w) {ts : Array TypeId} {t ty : TypeId} (h0 : ts[0]? = some t) {x x' : Value} (hx : VRel f h.length x x') {r : Value} (ha : alen P h t x = some r) :
    ∃ r', (Builtin.len_ ts ty #[x']).run P w = .ok r' w ∧ VRel f h.length r r' := by
  unfold alen at ha
  split at ha
  · rename_i s hu
    cases hx.string_inv; cases ha
    exact ⟨_, by simp only [Builtin.len_, h0, List.getElem?_toArray, List.getElem?_cons_zero, Sem.run_bind, run_underlying hu, Result.andThen_ok, Sem.run_pure, goInt], .int _ _⟩
  · rename_i n e hu
    cases ha
    exact ⟨_, by simp only [Builtin.len_, h0, List.getElem?_toArray, List.getElem?_cons_zero, Sem.run_bind, run_underlying hu, Result.andThen_ok, Sem.run_pure, goInt], .int _ _⟩
  · rename_i arr hu
    split at ha
    · rename_i n e hu2
      cases ha
      exact ⟨_, by simp only [Builtin.len_, h0, List.getElem?_toArray, List.getElem?_cons_zero, Sem.run_bind, run_underlying hu, run_underlying hu2, Result.andThen_ok, Sem.run_pure, goInt], .int _ _⟩
    · cases ha
  · rename_i e a n c hu
    cases ha
    have : ∃ a' c', x' = .slice a' n c' := by
      cases hx with
      | nilSlice => exact ⟨_, _, rfl⟩
      | slice => exact ⟨_, _, rfl⟩
      | slice0 => exact ⟨_, _, rfl⟩
    obtain ⟨a', c', rfl⟩ := this
    exact ⟨_, by simp only [Builtin.len_, h0, List.getElem?_toArray, List.getElem?_cons_zero, Sem.run_bind, run_underlying hu, Result.andThen_ok, Sem.run_pure, goInt], .int _ _⟩
  · rename_i e cs ks hu
    obtain ⟨n0, rfl, hcz⟩ := hx.fz_inv
    rw [fzN_lit] at ha
    cases ha
    have : ∃ a' c', x' = .slice a' n0 c' := by
      rcases hcz with ⟨r0, o0, c0, ds, rfl, _⟩ | ⟨rfl, _, a, c, rfl⟩
      · exact ⟨_, _, rfl⟩
      · exact ⟨_, _, rfl⟩
    obtain ⟨a', c', rfl⟩ := this
    exact ⟨_, by simp only [Builtin.len_, h0, List.getElem?_toArray, List.getElem?_cons_zero, Sem.run_bind, run_underlying hu, Result.andThen_ok, Sem.run_pure, goInt], .int _ _⟩
  · rename_i kt et hu
    cases ha
    have hx' : x' = .map none := plain_inv rfl hx
    subst hx'
    exact ⟨_, by simp only [Builtin.len_, h0, List.getElem?_toArray, List.getElem?_cons_zero, Sem.run_bind, run_underlying hu, Result.andThen_ok, Sem.run_pure, goInt], .int _ _⟩
  · rename_i kt et b hu
    split at ha
    · rename_i es clk hb
      cases ha
      obtain ⟨rfl, hbL⟩ := hx.map_inv
      obtain ⟨o', ho', es', rfl, h2, h3⟩ := hs.obj b _ hb rfl
      exact ⟨.int .i64 es'.size, by simp only [Builtin.len_, h0, List.getElem?_toArray, List.getElem?_cons_zero, Sem.run_bind, run_underlying hu, Result.andThen_ok, run_getObj_map ho', Sem.run_pure, goInt], by rw [h2]; exact .int _ _⟩
    · cases ha
  · cases ha

/-! ### conversions -/
def bytesIn (cs : List Value) : Option (List UInt8) :=
  match cs with
  | [] => some []
  | .int .u8 n :: r => (bytesIn r).map (UInt8.ofNat n.toNat :: ·)
  | _ :: _ => none

theorem freeze_new (w : World) (c : Array Value) (e : TypeId) : (w.alloc (.cells c e)).freeze ⟨w.heap.size, c.size, none⟩ 1 = w.alloc (.cells c e (c.size, c.size + 1)) := by
  unfold World.freeze World.alloc
  simp only [Nat.one_ne_zero, if_false]
  congr 1
  apply Array.ext
  · simp
  · intro i h1 h2
    simp only [Array.getElem_modify, Array.getElem_push]
    simp at h2
    by_cases hi : i < w.heap.size
    · have : ¬ (w.heap.size = i) := by omega
      simp [hi, this]
    · have : i = w.heap.size := by omega
      subst this
      simp

def bcells (s : ByteArray) : Array Value := s.data.map fun (b : UInt8) => Value.int .u8 b.toNat
theorem bcells_crel {f : Emb} {L : Nat} (s : ByteArray) : CRel f L (bcells s) (bcells s) := bytes_crel s
theorem size_bcells (s : ByteArray) : (bcells s).size = s.size := by simp only [bcells, Array.size_map]; rfl

theorem sound_stringToBytes {P : Program} {f : Emb} {h : AH} {w : World} (hs : Sim P f h w) (e : TypeId) (s : ByteArray) :
    ∃ f1 r' w1, (Conv.stringToBytes e s).run P w = .ok r' w1 ∧ Step P f h w f1 (h ++ [.cells (bcells s) 1 true]) w1 ∧ VRel f1 (h.length + 1) (.slice (some ⟨h.length, 0, none⟩) s.size s.size) r' := by
  have hcap : ∃ cap, s.size ≤ cap ∧ (choose (.appendCap s.size 0 e)).run P w = .ok cap w.drew := by
    refine ⟨(Question.appendCap s.size 0 e).cut (w.tape w.drawn (.appendCap s.size 0 e)), ?_, ?_⟩
    · simp [Question.cut]
    · rw [run_choose]; simp [Question.forced]
  obtain ⟨cap, h1, h2⟩ := hcap
  have hcr := bcells_crel (f := f) (L := h.length) s
  have hsz := size_bcells s
  have hsd : Sim P f h w.drew := hs.congr rfl
  obtain ⟨C, hC⟩ : ∃ C, C = bcells s ++ Array.replicate (cap - s.size) (Value.int .u8 0) := ⟨_, rfl⟩
  have hCs : C.size = cap := by rw [hC]; simp only [Array.size_append, hsz, Array.size_replicate]; omega
  have halloc := Step.alloc hsd (.cells (bcells s) 1 true) (.cells C e (C.size, C.size + 1))
    ⟨w.drew.heap.size, 0, s.size, cap, 1⟩ rfl (by
      refine ⟨_, _, _, rfl, hsz, rfl, by simp only; omega, fun _ => ⟨by simp only [hCs]; omega, fun i hi => by simp only [Bool.and_eq_false_iff, decide_eq_false_iff_not]; left; omega⟩,
        by simp only [hCs]; omega, fun i hi => ?_⟩
      simp only [Nat.zero_add]
      rw [hC, getD_append_left' _ _ _ hi]
      exact hcr.2 i)
  refine ⟨_, .slice (some ⟨w.heap.size, 0, none⟩) s.size cap, _, ?_, Step.after_drew hs halloc, ?_⟩
  · have e0 : ((s.data.map fun (b : UInt8) => Value.int .u8 b.toNat) ++ Array.replicate (cap - s.size) (Value.int .u8 0)) = C := hC.symm
    have e2 : (w.drew.alloc (.cells C e)).shape? w.drew.heap.size = some (e, C.size) := by
      simp only [World.shape?, heap_alloc_new]
    simp only [Conv.stringToBytes, Sem.run_bind, h2, Result.andThen_ok, newRow, run_newObj, Sem.run_pure, markStringish, e0, World.alloc_eq]
    simp only [run_shape, Result.andThen_ok, e2, run_freeze, freeze_new, Sem.run_bind, Sem.run_pure]
    rfl
  · refine .slice h.length 0 _ _ _ _ _ (by omega) ?_ ?_ (.inr ⟨?_, ?_, ?_, h1⟩)
    · rw [upd_eq]; rfl
    · rw [upd_eq]
    · rw [upd_eq]; simp
    · rw [upd_eq]; simp
    · rw [upd_eq]; simp

theorem bytesIn_length (cs : List Value) : ∀ {l : List UInt8}, bytesIn cs = some l → l.length = cs.length := by
  induction cs with
  | nil => intro l h; simp [bytesIn] at h; subst h; rfl
  | cons v r ih =>
    intro l h
    cases v with
    | int k n =>
      cases k <;> simp [bytesIn] at h
      obtain ⟨l', h1, rfl⟩ := h
      simp [ih h1]
    | _ => simp [bytesIn] at h

theorem run_forIn_bytes {P : Program} {f : Emb} {L : Nat} (w : World) (g : Value → ByteArray → Sem (ForInStep ByteArray)) (hg : ∀ n s, (g (.int .u8 n) s).run P w = .ok (.yield (s.push (UInt8.ofNat n.toNat))) w)
    (cs : List Value) : ∀ (ds : List Value) (l : List UInt8) (s : ByteArray), cs.length = ds.length → (∀ i : Nat, VRel f L (cs.getD i Am.junk) (ds.getD i Am.junk)) → bytesIn cs = some l →
    (forIn ds s g).run P w = .ok ⟨s.data ++ l.toArray⟩ w := by
  induction cs with
  | nil =>
    intro ds l s hl hr h
    cases ds with
    | nil => simp [bytesIn] at h; subst h; simp
    | cons => simp at hl
  | cons v r ih =>
    intro ds l s hl hr h
    cases ds with
    | nil => simp at hl
    | cons d ds =>
      cases v with
      | int k n =>
        cases k <;> simp [bytesIn] at h
        obtain ⟨l', h1, rfl⟩ := h
        have h0 := (hr 0)
        simp only [List.getD_cons_zero] at h0
        cases h0.int_inv
        have := ih ds l' (s.push (UInt8.ofNat n.toNat)) (by simpa using hl) (fun i => by simpa using hr (i + 1)) h1
        simp only [List.forIn_cons, Sem.run_bind, hg, Result.andThen_ok]
        rw [this]
        congr 1
        apply ByteArray.ext
        simp [ByteArray.data_push]
      | _ => simp [bytesIn] at h

def aconvert (P : Program) (h : AH) (src dst : TypeId) (x : Value) : Option (Value × AH) :=
  match P.underlying src, P.underlying dst, x with
  | some _, some (.int k), .int _ n => some (.int k (k.wrap n), h)
  | some _, some .string, .string s => some (.string s, h)
  | some .string, some (.slice e), .string s => match P.underlying e with
    | some (.int .u8) => some (.slice (some ⟨h.length, 0, none⟩) s.size s.size, h ++ [.cells (bcells s) 1 true])
    | _ => none
  | some (.slice e), some .string, .slice none _ _ => match P.underlying e with
    | some (.int .u8) => some (.string .empty, h)
    | _ => none
  | some (.slice e), some .string, .slice (some ⟨b, o, none⟩) len cap => match P.underlying e with
    | some (.int .u8) => if len = 0 then some (.string .empty, h) else match h[b]? with
      | some (.cells c _ _) => if o + len ≤ c.size then (bytesIn (c.extract o (o + len)).toList).map fun l => (.string ⟨l.toArray⟩, h) else none
      | _ => none
    | _ => none
  | some (.slice e), some .string, .func (.yield 0) cs ks => match P.underlying e, fzN ks with
    | some (.int .u8), some n => if n ≤ cs.size then (bytesIn (cs.extract 0 n).toList).map fun l => (.string ⟨l.toArray⟩, h) else none
    | _, _ => none
  | _, _, _ => none


theorem sound_convert {P : Program} {f : Emb} {h : AH} {w : World} (hs : Sim P f h w) {src dst : TypeId} {x x' : Value} (hx : VRel f h.length x x') {r : Value} {h1 : AH} (ha : aconvert P h src dst x = some (r, h1)) :
    ∃ f1 r' w1, (convert src dst x').run P w = .ok r' w1 ∧ Step P f h w f1 h1 w1 ∧ VRel f1 h1.length r r' := by
  unfold aconvert at ha
  split at ha
  · rename_i d k k0 n hu hv
    cases hx.int_inv
    cases ha
    exact ⟨f, _, w, by simp only [convert, Sem.run_bind, run_underlying hu, run_underlying hv, Result.andThen_ok, Conv.intToInt, Sem.run_pure], Step.refl hs, .int _ _⟩
  · rename_i d s hu hv
    cases hx.string_inv
    cases ha
    refine ⟨f, _, w, ?_, Step.refl hs, .string _⟩
    cases d <;> simp only [convert, Sem.run_bind, run_underlying hu, run_underlying hv, Result.andThen_ok, Sem.run_pure]
  · rename_i e s hu hv
    cases hx.string_inv
    split at ha
    · rename_i he
      cases ha
      obtain ⟨f1, r', w1, g1, g2, g3⟩ := sound_stringToBytes hs e s
      refine ⟨f1, r', w1, ?_, g2, by simpa using g3⟩
      simp only [convert, Sem.run_bind, run_underlying hu, run_underlying hv, run_underlying he, Result.andThen_ok, g1]
    · cases ha
  · rename_i e l c hu hv
    split at ha
    · rename_i he
      cases ha
      have hx' : x' = .slice none l c := plain_inv rfl hx
      subst hx'
      refine ⟨f, _, w, ?_, Step.refl hs, .string _⟩
      simp only [convert, Sem.run_bind, run_underlying hu, run_underlying hv, run_underlying he, Result.andThen_ok, Conv.bytesToString, Sem.run_pure]
    · cases ha
  · rename_i e b o len cap hu hv
    split at ha
    · rename_i he
      split at ha
      · rename_i h0
        subst h0
        cases ha
        have key : ∀ (a' : Addr) (c' : Nat), (convert src dst (.slice (some a') 0 c')).run P w = .ok (.string .empty) w := by
          intro a' c'
          simp only [convert, Sem.run_bind, run_underlying hu, run_underlying hv, run_underlying he, Result.andThen_ok, Conv.bytesToString, run_loadCells_zero]
          rfl
        rcases hx.slice_inv with ⟨c', rfl, _, _⟩ | ⟨_, _, a', rfl, _⟩
        · exact ⟨f, _, w, key _ _, Step.refl hs, .string _⟩
        · exact ⟨f, _, w, key _ _, Step.refl hs, .string _⟩
      · rename_i hnz
        split at ha
        · rename_i c es rw hb
          split at ha
          · rename_i hle
            simp only [Option.map_eq_some_iff, Prod.mk.injEq] at ha
            obtain ⟨l, hl, rfl, rfl⟩ := ha
            rcases hx.slice_inv with ⟨c', rfl, _, _⟩ | ⟨h0, _, _, _, _⟩
            · obtain ⟨ds, g1, g2, g3, g4⟩ := hs.loadCells hb o len hle
              refine ⟨f, .string ⟨l.toArray⟩, w, ?_, Step.refl hs, .string _⟩
              simp only [convert, Sem.run_bind, run_underlying hu, run_underlying hv, run_underlying he, Result.andThen_ok, Conv.bytesToString, g1]
              rw [← Array.forIn_toList]
              have hrel : ∀ i : Nat, VRel f h.length ((c.extract o (o + len)).toList.getD i Am.junk) (ds.toList.getD i Am.junk) := fun i => by
                have := g3 i
                rw [Array.getD_eq_getD_getElem?, Array.getD_eq_getD_getElem?, ← Array.getElem?_toList, ← Array.getElem?_toList] at this
                exact this
              rw [run_forIn_bytes (P := P) (f := f) (L := h.length) w _ ?hg (c.extract o (o + len)).toList ds.toList l .empty (by simp; omega) hrel hl]
              · simp only [Result.andThen_ok, Sem.run_pure]
                congr 2
                apply ByteArray.ext
                simp
              · intro n s
                rfl
            · exact absurd h0 hnz
          · cases ha
        · cases ha
    · cases ha
  · rename_i e cs ks hu hv
    obtain ⟨n0, rfl, hcz⟩ := hx.fz_inv
    rw [fzN_lit] at ha
    split at ha
    case h_2 => cases ha
    rename_i n he hn0
    cases hn0
    split at ha
    case isFalse => cases ha
    rename_i hle
    simp only [Option.map_eq_some_iff, Prod.mk.injEq] at ha
    obtain ⟨l, hl, rfl, rfl⟩ := ha
    rcases hcz with ⟨r0, o0, c0, ds0, rfl, hrom, hle2, hn, hxy, hone⟩ | ⟨rfl, rfl, a, c0, rfl⟩
    · obtain ⟨ds, g1, g2, g3, g4⟩ := (hs.heldRom hrom hle2 hxy hone).loadCells (P := P) 0 n0 (by omega)
      simp only [Nat.zero_add, Nat.add_zero] at g1 g3
      refine ⟨f, .string ⟨l.toArray⟩, w, ?_, Step.refl hs, .string _⟩
      simp only [convert, Sem.run_bind, run_underlying hu, run_underlying hv, run_underlying he, Result.andThen_ok, Conv.bytesToString, g1]
      rw [← Array.forIn_toList]
      have hrel : ∀ i : Nat, VRel f h.length ((cs.extract 0 n0).toList.getD i Am.junk) (ds.toList.getD i Am.junk) := fun i => by
        have := g3 i
        rw [Array.getD_eq_getD_getElem?, Array.getD_eq_getD_getElem?, ← Array.getElem?_toList, ← Array.getElem?_toList] at this
        exact this
      rw [run_forIn_bytes (P := P) (f := f) (L := h.length) w _ ?hg2 (cs.extract 0 n0).toList ds.toList l .empty (by simp; omega) hrel hl]
      · simp only [Result.andThen_ok, Sem.run_pure]
        congr 2
        apply ByteArray.ext
        simp
      · intro n s
        rfl
    · refine ⟨f, .string .empty, w, ?_, Step.refl hs, ?_⟩
      · simp only [convert, Sem.run_bind, run_underlying hu, run_underlying hv, run_underlying he, Result.andThen_ok, Conv.bytesToString, run_loadCells_zero]
        rfl
      · have : l = [] := by simpa [bytesIn] using hl.symm
        subst this
        exact .string _
  · cases ha

end Go.Am
