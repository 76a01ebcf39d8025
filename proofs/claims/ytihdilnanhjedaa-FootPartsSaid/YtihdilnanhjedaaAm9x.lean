import Derived.Test.YtihdilnanhjedaaAm6x
import Derived.Lib.Builder
import Derived.MapKept
set_option linter.unusedVariables false
set_option linter.unusedSimpArgs false
/- Numbers, conversions, functions, lengths. -/
namespace Go.Am
open Go

def aint (op : BinOp) (k : IntKind) (a b : Int) : Option Value :=
  match op with
  | .add => some (.int k (k.wrap (a + b)))
  | .sub => some (.int k (k.wrap (a - b)))
  | .mul => some (.int k (k.wrap (a * b)))
  | .quo => if b = 0 then none else some (.int k (k.wrap (a.tdiv b)))
  | .rem => if b = 0 then none else some (.int k (a.tmod b))
  | .and => some (.int k (k.wrap (BitVec.ofInt k.bits a &&& BitVec.ofInt k.bits b).toNat))
  | .or => some (.int k (k.wrap (BitVec.ofInt k.bits a ||| BitVec.ofInt k.bits b).toNat))
  | .xor => some (.int k (k.wrap (BitVec.ofInt k.bits a ^^^ BitVec.ofInt k.bits b).toNat))
  | .andNot => some (.int k (k.wrap (BitVec.ofInt k.bits a &&& ~~~ BitVec.ofInt k.bits b).toNat))
  | .eql => some (.bool (a == b))
  | .neq => some (.bool (a != b))
  | .lss => some (.bool (a < b))
  | .leq => some (.bool (a ≤ b))
  | .gtr => some (.bool (a > b))
  | .geq => some (.bool (a ≥ b))
  | .shl | .shr => none

/-- a result is taken if it is plain -/
def plainOut : Option Value → Option Value
  | some r => if plainB r then some r else none
  | none => none

theorem plainOut_some {o : Option Value} {r : Value} (h : plainOut o = some r) : o = some r ∧ plainB r = true := by
  unfold plainOut at h
  split at h
  · split at h
    · rename_i hp; cases h; exact ⟨rfl, hp⟩
    · cases h
  · cases h

/-- is it nil? -/
def nilV (d : TypeDesc) (v : Value) : Option Bool :=
  match d, v with
  | .slice _, .slice none _ _ => some true
  | .slice _, .slice (some _) _ _ => some false
  | .slice _, .func (.yield 0) _ _ => some false
  | .pointer _, .pointer none => some true
  | .pointer _, .pointer (some _) => some false
  | .pointer _, .func (.yield 1) _ _ => some false
  | .map _ _, .map none => some true
  | .map _ _, .map (some _) => some false
  | .func _ _ _, .nilFunc => some true
  | .func _ _ _, .func (.func _) _ _ => some false
  | .interface _, .nilIface => some true
  | .interface _, .iface _ _ => some false
  | _, _ => none

/-- one of the two is nil, the other one is not -/
def nilCmp (P : Program) (op : BinOp) (t : TypeId) (a b : Value) : Option Value :=
  match P.underlying t with
  | some d => match nilV d a, nilV d b with
    | some x, some y => if x = y then none else (match op with
      | .eql => some (.bool false)
      | .neq => some (.bool true)
      | _ => none)
    | _, _ => none
  | none => none

/-- is it nil? (of the world's values) -/
def nilR (d : TypeDesc) (v : Value) : Option Bool :=
  match d, v with
  | .slice _, .slice a _ _ => some a.isNone
  | .pointer _, .pointer a => some a.isNone
  | .map _ _, .map a => some a.isNone
  | .func _ _ _, .nilFunc => some true
  | .func _ _ _, .func _ _ _ => some false
  | .interface _, .nilIface => some true
  | .interface _, .iface _ _ => some false
  | _, _ => none

theorem nilV_rel {d : TypeDesc} {f : Emb} {L : Nat} {v v' : Value} {x : Bool} (h : nilV d v = some x) (r : VRel f L v v') : nilR d v' = some x := by
  cases r with
  | junk => cases d <;> simp [nilV, junk] at h
  | func fn xs ys cs ds hfn => cases fn <;> first | (cases hfn; done) | (cases d <;> first | (cases h; done) | exact h)
  | fz => cases d <;> first | (cases h; done) | exact h
  | fz0 => cases d <;> first | (cases h; done) | exact h
  | fp => cases d <;> first | (cases h; done) | exact h
  | _ => cases d <;> first | (cases h; done) | exact h

inductive Mixed : TypeDesc → Value → Value → Prop
  | s1 (e : TypeId) (l c : Nat) (q : Addr) (l' c' : Nat) : Mixed (.slice e) (.slice none l c) (.slice (some q) l' c')
  | s2 (e : TypeId) (l c : Nat) (q : Addr) (l' c' : Nat) : Mixed (.slice e) (.slice (some q) l' c') (.slice none l c)
  | p1 (e : TypeId) (q : Addr) : Mixed (.pointer e) (.pointer none) (.pointer (some q))
  | p2 (e : TypeId) (q : Addr) : Mixed (.pointer e) (.pointer (some q)) (.pointer none)
  | m1 (k e : TypeId) (q : Nat) : Mixed (.map k e) (.map none) (.map (some q))
  | m2 (k e : TypeId) (q : Nat) : Mixed (.map k e) (.map (some q)) (.map none)
  | f1 (p r : Array TypeId) (v : Bool) (fn : Fn) (xs ys : Array Value) : Mixed (.func p r v) .nilFunc (.func fn xs ys)
  | f2 (p r : Array TypeId) (v : Bool) (fn : Fn) (xs ys : Array Value) : Mixed (.func p r v) (.func fn xs ys) .nilFunc
  | i1 (d : TypeDesc) (hd : ∃ ms, d = .interface ms) (t : TypeId) (v : Value) : Mixed d .nilIface (.iface t v)
  | i2 (d : TypeDesc) (hd : ∃ ms, d = .interface ms) (t : TypeId) (v : Value) : Mixed d (.iface t v) .nilIface

theorem mixed_of {d : TypeDesc} {a b : Value} {x y : Bool} (ha : nilR d a = some x) (hb : nilR d b = some y) (hxy : x ≠ y) : Mixed d a b := by
  have two : ∀ {α : Type} (p q : Option α), some p.isNone = some x → some q.isNone = some y → (p = none ∧ q.isSome = true) ∨ (p.isSome = true ∧ q = none) := by
    intro α p q h1 h2
    cases p <;> cases q <;> cases h1 <;> cases h2 <;> first | exact absurd rfl hxy | exact .inl ⟨rfl, rfl⟩ | exact .inr ⟨rfl, rfl⟩
  cases d with
  | slice el =>
    cases a <;> first | (cases ha; done) | skip
    cases b <;> first | (cases hb; done) | skip
    rename_i p _ _ q _ _
    rcases two p q ha hb with ⟨rfl, h⟩ | ⟨h, rfl⟩
    · cases q <;> first | (cases h; done) | exact .s1 ..
    · cases p <;> first | (cases h; done) | exact .s2 ..
  | pointer el =>
    cases a <;> first | (cases ha; done) | skip
    cases b <;> first | (cases hb; done) | skip
    rename_i p q
    rcases two p q ha hb with ⟨rfl, h⟩ | ⟨h, rfl⟩
    · cases q <;> first | (cases h; done) | exact .p1 ..
    · cases p <;> first | (cases h; done) | exact .p2 ..
  | map k el =>
    cases a <;> first | (cases ha; done) | skip
    cases b <;> first | (cases hb; done) | skip
    rename_i p q
    rcases two p q ha hb with ⟨rfl, h⟩ | ⟨h, rfl⟩
    · cases q <;> first | (cases h; done) | exact .m1 ..
    · cases p <;> first | (cases h; done) | exact .m2 ..
  | func p r v =>
    cases a <;> first | (cases ha; done) | skip
    all_goals (cases b <;> first | (cases hb; done) | skip)
    all_goals first | exact .f1 .. | exact .f2 .. | (cases ha; cases hb; exact absurd rfl hxy)
  | interface ms =>
    cases a <;> first | (cases ha; done) | skip
    all_goals (cases b <;> first | (cases hb; done) | skip)
    all_goals first | (cases ha; cases hb; exact absurd rfl hxy) | exact .i1 _ ⟨_, rfl⟩ .. | exact .i2 _ ⟨_, rfl⟩ ..
  | _ => cases ha

theorem mixed_equal {P : Program} {t : TypeId} {d : TypeDesc} (hu : P.underlying t = some d) {a b : Value} (m : Mixed d a b) (w : World) :
    (Op.equal t a b).run P w = .ok false w := by
  have e : Op.equal t a b = Op.equalIn (9999 + 1) t a b := rfl
  rw [e]
  unfold Op.equalIn
  simp only [Sem.run_bind, run_underlying hu, Result.andThen_ok]
  cases m with
  | i1 _ hd _ _ => obtain ⟨ms, rfl⟩ := hd; rfl
  | i2 _ hd _ _ => obtain ⟨ms, rfl⟩ := hd; rfl
  | _ => rfl

theorem nilCmp_sound {P : Program} {op : BinOp} {t : TypeId} {x y : Operand} {f : Emb} {L : Nat} {a b a' b' : Value} {r : Value} (h : nilCmp P op t a b = some r) (ra : VRel f L a a') (rb : VRel f L b b') (w : World) :
    ((do eqGuard op t x y a' b'; binOp op t a' b') : Sem Value).run P w = .ok r w ∧ plainB r = true := by
  unfold nilCmp at h
  split at h
  case h_2 => cases h
  rename_i d hu
  split at h
  case h_2 => cases h
  rename_i u v hu1 hv1
  split at h
  · cases h
  rename_i hne
  have m := mixed_of (nilV_rel hu1 ra) (nilV_rel hv1 rb) hne
  have e := mixed_equal hu m w
  split at h <;> cases h
  all_goals
    refine ⟨?_, rfl⟩
    cases m
    all_goals
      simp only [Sem.run_bind, eqGuard, Bool.not_true, Bool.false_eq_true, if_false, Sem.run_pure, Result.andThen_ok, binOp, e, Bool.not_false]

def ptrT (P : Program) (t : TypeId) : Bool :=
  match P.underlying t with
  | some (.pointer e) => (P.info? e).isSome
  | _ => false
theorem ptrT_spec {P : Program} {t : TypeId} (h : ptrT P t = true) : ∃ e j, P.underlying t = some (.pointer e) ∧ P.info? e = some j := by
  unfold ptrT at h
  split at h
  · rename_i e hu
    obtain ⟨j, hj⟩ := Option.isSome_iff_exists.1 h
    exact ⟨e, j, hu, hj⟩
  · cases h

def abinOp (P : Program) (op : BinOp) (t : TypeId) (x y : Operand) (a b : Value) : Option Value :=
  match op, a, b with
  | .shl, .int k a, .int _ b => if b < 0 then none else some (.int k (k.wrap (a * 2 ^ (min b.toNat k.bits))))
  | .shr, .int k a, .int _ b => if b < 0 then none else some (.int k (a.fdiv (2 ^ (min b.toNat k.bits))))
  | op, .int k a, .int k' b => if k = k' then aint op k a b else none
  | .neq, .pointer (some ⟨b, o, none⟩), .pointer (some ⟨b', o', none⟩) => if b = b' ∧ o = o' ∧ ptrT P t = true then some (.bool false) else none
  | op, a, b => if plainB a && plainB b then plainOut (pureRun P (do eqGuard op t x y a b; binOp op t a b)) else nilCmp P op t a b

theorem run_eqGuard_int {P : Program} (w : World) (op : BinOp) (t : TypeId) (x y : Operand) (k k' : IntKind) (a b : Int) : (eqGuard op t x y (.int k a) (.int k' b)).run P w = .ok () w := by
  cases op <;> simp [eqGuard]

theorem run_aint {P : Program} (w : World) (op : BinOp) (t : TypeId) (k : IntKind) (a b : Int) {r : Value} (h : aint op k a b = some r) : (binOp op t (.int k a) (.int k b)).run P w = .ok r w := by
  cases op <;> simp only [aint] at h <;> (try split at h) <;> (first | (simp only [Option.some.injEq] at h; subst h) | cases h) <;>
    (first | (simp [binOp, Op.intArith]; done) | (simp [binOp, Op.intDiv, *]; done) | (simp [binOp, Op.intBits]; done) | (simp [binOp, Op.intCmp]; done))

theorem sound_binOp {P : Program} {f : Emb} {L : Nat} (w : World) (op : BinOp) (t : TypeId) (x y : Operand) {a a' b b' : Value} (ha : VRel f L a a') (hb : VRel f L b b') {r : Value} (h : abinOp P op t x y a b = some r) :
    ∃ r', ((do eqGuard op t x y a' b'; binOp op t a' b') : Sem Value).run P w = .ok r' w ∧ VRel f L r r' := by
  unfold abinOp at h
  split at h
  · rename_i k a b kb
    cases ha.int_inv; cases hb.int_inv
    split at h
    · cases h
    · rename_i hn
      simp only [Option.some.injEq] at h
      subst h
      exact ⟨_, by simp [run_eqGuard_int, binOp, Op.shift, hn], .int _ _⟩
  · rename_i k a b kb
    cases ha.int_inv; cases hb.int_inv
    split at h
    · cases h
    · rename_i hn
      simp only [Option.some.injEq] at h
      subst h
      exact ⟨_, by simp [run_eqGuard_int, binOp, Op.shift, hn], .int _ _⟩
  · rename_i k a k' b _ _
    cases ha.int_inv; cases hb.int_inv
    split at h
    · rename_i hk
      subst hk
      refine ⟨r, by simp only [Sem.run_bind, run_eqGuard_int, Result.andThen_ok, run_aint w op t k a b h], ?_⟩
      cases op <;> simp only [aint] at h <;> (try split at h) <;> (first | (simp only [Option.some.injEq] at h; subst h) | cases h) <;> first | exact .int _ _ | exact .bool _
    · cases h
  · rename_i b o b' o'
    split at h
    · rename_i hc
      obtain ⟨rfl, rfl, hpt⟩ := hc
      cases h
      obtain ⟨rfl, _⟩ := ha.ptr_inv
      obtain ⟨rfl, _⟩ := hb.ptr_inv
      obtain ⟨e, j, hu, hj⟩ := ptrT_spec hpt
      refine ⟨.bool false, ?_, .bool _⟩
      have := Lib.run_neq_ptr_same (P := P) w ⟨(f b).blk, (f b).off + o, none⟩ hu hj
      simp only [Sem.run_bind, eqGuard, Bool.not_true, Bool.false_eq_true, if_false, Sem.run_pure, Result.andThen_ok, this]
    · cases h
  · split at h
    · rename_i hp
      simp only [Bool.and_eq_true] at hp
      cases plain_inv hp.1 ha
      cases plain_inv hp.2 hb
      obtain ⟨h1, h2⟩ := plainOut_some h
      exact ⟨r, pureRun_run h1 w, plain_refl h2⟩
    · obtain ⟨h1, h2⟩ := nilCmp_sound (x := x) (y := y) h ha hb w
      exact ⟨r, h1, plain_refl h2⟩

def aunOp (P : Program) (op : UnOp) (a : Value) : Option Value :=
  match op, a with
  | .not, .bool b => some (.bool !b)
  | .neg, .int k n => some (.int k (k.wrap (0 - n)))
  | .xor, .int k n => some (.int k (k.wrap (BitVec.ofInt k.bits (if k.signed then -1 else k.max) ^^^ BitVec.ofInt k.bits n).toNat))
  | _, _ => none

theorem sound_unOp {P : Program} {f : Emb} {L : Nat} (w : World) (op : UnOp) {a a' : Value} (ha : VRel f L a a') {r : Value} (h : aunOp P op a = some r) :
    ∃ r', (Op.unary op a').run P w = .ok r' w ∧ VRel f L r r' := by
  unfold aunOp at h
  split at h
  · cases ha.bool_inv; cases h; exact ⟨_, rfl, .bool _⟩
  · cases ha.int_inv; cases h; exact ⟨_, rfl, .int _ _⟩
  · cases ha.int_inv; cases h; exact ⟨_, rfl, .int _ _⟩
  · cases h

def anilCheck (x : Value) : Option Value :=
  match x with
  | .pointer (some a) => some (.pointer (some a))
  | .func (.func F) xs cs => some (.func (.func F) xs cs)
  | .iface t v => some (.iface t v)
  | .func (.yield 1) xs cs => some (.func (.yield 1) xs cs)
  | _ => none

theorem sound_nilCheck {P : Program} {f : Emb} {L : Nat} (w : World) (ρ : Operand → Value) (o : Oper) (x : Operand) (ho : o.op = .nilCheck x) {a : Value} (ha : VRel f L a (ρ x)) {r : Value} (h : anilCheck a = some r) :
    ∃ r', (execOp ρ o).run P w = .ok (.value r') w ∧ VRel f L r r' := by
  unfold anilCheck at h
  split at h
  · rename_i a0
    cases h
    generalize hx : ρ x = y at ha
    cases ha with
    | ptr b o' r o'' hb hr ho' => exact ⟨_, by simp [execOp, ho, hx], .ptr b o' r o'' hb hr ho'⟩
  · rename_i F xs cs
    cases h
    generalize hx : ρ x = y at ha
    cases ha with
    | func fn xs ys cs ds hfn h1 h2 h3 h4 => exact ⟨_, by simp [execOp, ho, hx], .func _ _ _ _ _ hfn h1 h2 h3 h4⟩
  · rename_i t v
    cases h
    generalize hx : ρ x = y at ha
    cases ha with
    | iface t v v' hv => exact ⟨_, by simp [execOp, ho, hx], .iface _ _ _ hv⟩
  · rename_i xs cs
    cases h
    generalize hx : ρ x = y at ha
    have ha0 := ha
    obtain ⟨k, r, o', ds, rfl, rfl, _⟩ := ha.fp_inv
    exact ⟨_, by simp [execOp, ho, hx], ha0⟩
  · cases h

def aarrayPtr (P : Program) (t : TypeId) (x : Value) : Option Value :=
  match P.underlying t, x with
  | some (.array n _), .slice (some ⟨b, o, none⟩) len _ => if n ≤ len ∧ 0 < len then some (.pointer (some ⟨b, o, none⟩)) else none
  | some (.array n _), .func (.yield 0) cs ks => match fzN ks with
    | some len => if n ≤ len ∧ 0 < len then some (fp cs 0) else none
    | none => none
  | _, _ => none

theorem sound_arrayPtr {P : Program} {f : Emb} {L : Nat} (w : World) {t : TypeId} {x x' : Value} (hx : VRel f L x x') {r : Value} (h : aarrayPtr P t x = some r) :
    ∃ r', (Instr.arrayAt t x').run P w = .ok r' w ∧ VRel f L r r' := by
  unfold aarrayPtr at h
  split at h
  · rename_i n e b o len cap hu
    split at h
    · rename_i hle
      cases h
      rcases hx.slice_inv with ⟨c', rfl, hb, _⟩ | ⟨h0, _, _, _, _⟩
      · have : ¬ (len < n) := by omega
        exact ⟨_, by simp only [Instr.arrayAt, Sem.run_bind, run_underlying hu, Result.andThen_ok, this, if_false, Sem.run_pure], .ptr b _ _ _ hb rfl rfl⟩
      · omega
    · cases h
  · rename_i n e cs ks hu
    obtain ⟨n0, rfl, hcz⟩ := hx.fz_inv
    rw [fzN_lit] at h
    simp only at h
    split at h
    · rename_i hle
      cases h
      rcases hcz with ⟨r0, o0, c0, ds, rfl, hrom, hle2, hn, hxy, hone⟩ | ⟨rfl, _⟩
      · have : ¬ (n0 < n) := by omega
        exact ⟨_, by simp only [Instr.arrayAt, Sem.run_bind, run_underlying hu, Result.andThen_ok, this, if_false, Sem.run_pure]; rfl, .fp cs 0 r0 o0 _ ds hrom hle2 rfl hxy hone⟩
      · omega
    · cases h
  · cases h

def amakeIface (P : Program) (t : TypeId) (x : Value) : Option Value :=
  match P.underlying t with
  | some (.interface _) => none
  | some _ => some (.iface t x)
  | none => none

theorem sound_makeIface {P : Program} {f : Emb} {L : Nat} (w : World) {t : TypeId} {x x' : Value} (hx : VRel f L x x') {r : Value} (h : amakeIface P t x = some r) :
    ∃ r', (Instr.makeInterface t x').run P w = .ok r' w ∧ VRel f L r r' := by
  unfold amakeIface at h
  split at h
  · cases h
  · rename_i d hni hu
    cases h
    refine ⟨.iface t x', ?_, .iface _ _ _ hx⟩
    cases d <;> first
      | (exfalso; exact hni _ rfl)
      | simp only [Instr.makeInterface, Sem.run_bind, run_underlying hu, Result.andThen_ok, Sem.run_pure]
  · cases h

def amakeFunc (fn : Fn) (first captured : Array Value) : Option Value :=
  match fn with
  | .func F => some (.func (.func F) first captured)
  | _ => none

theorem sound_makeFunc {P : Program} {f : Emb} {L : Nat} (w : World) {fn : Fn} {xs ys cs ds : Array Value} (hx : ARel f L xs ys) (hc : ARel f L cs ds) {r : Value} (h : amakeFunc fn xs cs = some r) :
    ∃ r', (Instr.makeFunc fn ys ds).run P w = .ok r' w ∧ VRel f L r r' := by
  unfold amakeFunc at h
  split at h
  · cases h; exact ⟨_, rfl, .func _ _ _ _ _ rfl hx.1 hx.2 hc.1 hc.2⟩
  · cases h

/-! ### lengths -/
def alen (P : Program) (h : AH) (t : TypeId) (x : Value) : Option Value :=
  match P.underlying t, x with
  | some .string, .string s => some (.int .i64 s.size)
  | some (.array n _), _ => some (.int .i64 n)
  | some (.pointer arr), _ => match P.underlying arr with
    | some (.array n _) => some (.int .i64 n)
    | _ => none
  | some (.slice _), .slice _ n _ => some (.int .i64 n)
  | some (.slice _), .func (.yield 0) _ ks => match fzN ks with
    | some n => some (.int .i64 n)
    | none => none
  | some (.slice _), .func (.yield 2) _ _ => some (.int .i64 0)
  | some (.map _ _), .map none => some (.int .i64 0)
  | some (.map _ _), .map (some b) => match h[b]? with
    | some (.map _ es _) => some (.int .i64 es.size)
    | _ => none
  | _, _ => none

theorem run_getObj_map {P : Program} {w : World} {r : Nat} {es : Array MapEntry} {c : Nat} (h : w.heap[r]? = some (.map es c)) : (getObj r).run P w = .ok (.map es c) w := by
  simp only [getObj, Sem.run, h]

theorem VRel.map_inv {f : Emb} {L : Nat} {b : Nat} {v' : Value} (h : VRel f L (.map (some b)) v') : v' = .map (some (f b).blk) ∧ b < L := by
  generalize hv : Value.map (some b) = v at h
  cases h with
  | map b' r hb hr => cases hv; subst hr; exact ⟨rfl, hb⟩
  | junk => simp [Am.junk] at hv
  | _ => cases hv

theorem sound_len {P : Program} {f : Emb} {h : AH} {w : World} (hs : Sim P f h w) {ts : Array TypeId} {t ty : TypeId} (h0 : ts[0]? = some t) {x x' : Value} (hx : VRel f h.length x x') {r : Value} (ha : alen P h t x = some r) :
    ∃ r', (Builtin.len_ ts ty #[x']).run P w = .ok r' w ∧ VRel f h.length r r' := by
  unfold alen at ha
  split at ha
  · rename_i s hu
    cases hx.string_inv; cases ha
    exact ⟨_, by simp only [Builtin.len_, h0, List.getElem?_toArray, List.getElem?_cons_zero, Sem.run_bind, run_underlying hu, Result.andThen_ok, Sem.run_pure, goInt], .int _ _⟩
  · rename_i n e hu
    cases ha
    exact ⟨_, by simp only [Builtin.len_, h0, List.getElem?_toArray, List.getElem?_cons_zero, Sem.run_bind, run_underlying hu, Result.andThen_ok, Sem.run_pure, goInt], .int _ _⟩
  · rename_i arr hu
    split at ha
    · rename_i n e hu2
      cases ha
      exact ⟨_, by simp only [Builtin.len_, h0, List.getElem?_toArray, List.getElem?_cons_zero, Sem.run_bind, run_underlying hu, run_underlying hu2, Result.andThen_ok, Sem.run_pure, goInt], .int _ _⟩
    · cases ha
  · rename_i e a n c hu
    cases ha
    have : ∃ a' c', x' = .slice a' n c' := by
      cases hx with
      | nilSlice => exact ⟨_, _, rfl⟩
      | slice => exact ⟨_, _, rfl⟩
      | slice0 => exact ⟨_, _, rfl⟩
    obtain ⟨a', c', rfl⟩ := this
    exact ⟨_, by simp only [Builtin.len_, h0, List.getElem?_toArray, List.getElem?_cons_zero, Sem.run_bind, run_underlying hu, Result.andThen_ok, Sem.run_pure, goInt], .int _ _⟩
  · rename_i e cs ks hu
    obtain ⟨n0, rfl, hcz⟩ := hx.fz_inv
    rw [fzN_lit] at ha
    cases ha
    have : ∃ a' c', x' = .slice a' n0 c' := by
      rcases hcz with ⟨r0, o0, c0, ds, rfl, _⟩ | ⟨rfl, _, a, c, rfl⟩
      · exact ⟨_, _, rfl⟩
      · exact ⟨_, _, rfl⟩
    obtain ⟨a', c', rfl⟩ := this
    exact ⟨_, by simp only [Builtin.len_, h0, List.getElem?_toArray, List.getElem?_cons_zero, Sem.run_bind, run_underlying hu, Result.andThen_ok, Sem.run_pure, goInt], .int _ _⟩
  · rename_i e xs ks hu
    obtain ⟨rfl, _, _⟩ := hx.bnil_inv
    cases ha
    exact ⟨_, by simp only [Builtin.len_, h0, List.getElem?_toArray, List.getElem?_cons_zero, Sem.run_bind, run_underlying hu, Result.andThen_ok, Sem.run_pure, goInt]; rfl, .int _ _⟩
  · rename_i kt et hu
    cases ha
    have hx' : x' = .map none := plain_inv rfl hx
    subst hx'
    exact ⟨_, by simp only [Builtin.len_, h0, List.getElem?_toArray, List.getElem?_cons_zero, Sem.run_bind, run_underlying hu, Result.andThen_ok, Sem.run_pure, goInt], .int _ _⟩
  · rename_i kt et b hu
    split at ha
    · rename_i es clk hb
      cases ha
      obtain ⟨rfl, hbL⟩ := hx.map_inv
      obtain ⟨o', ho', es', rfl, h2, h3⟩ := hs.obj b _ hb rfl
      exact ⟨.int .i64 es'.size, by simp only [Builtin.len_, h0, List.getElem?_toArray, List.getElem?_cons_zero, Sem.run_bind, run_underlying hu, Result.andThen_ok, run_getObj_map ho', Sem.run_pure, goInt], by rw [h2]; exact .int _ _⟩
    · cases ha
  · cases ha

/-! ### conversions -/
def bytesIn (cs : List Value) : Option (List UInt8) :=
  match cs with
  | [] => some []
  | .int .u8 n :: r => (bytesIn r).map (UInt8.ofNat n.toNat :: ·)
  | _ :: _ => none

theorem freeze_new (w : World) (c : Array Value) (e : TypeId) : (w.alloc (.cells c e)).freeze ⟨w.heap.size, c.size, none⟩ 1 = w.alloc (.cells c e (c.size, c.size + 1)) := by
  unfold World.freeze World.alloc
  simp only [Nat.one_ne_zero, if_false]
  congr 1
  apply Array.ext
  · simp
  · intro i h1 h2
    simp only [Array.getElem_modify, Array.getElem_push]
    simp at h2
    by_cases hi : i < w.heap.size
    · have : ¬ (w.heap.size = i) := by omega
      simp [hi, this]
    · have : i = w.heap.size := by omega
      subst this
      simp

def bcells (s : ByteArray) : Array Value := s.data.map fun (b : UInt8) => Value.int .u8 b.toNat
theorem bcells_crel {f : Emb} {L : Nat} (s : ByteArray) : CRel f L (bcells s) (bcells s) := bytes_crel s
theorem size_bcells (s : ByteArray) : (bcells s).size = s.size := by simp only [bcells, Array.size_map]; rfl

theorem sound_stringToBytes {P : Program} {f : Emb} {h : AH} {w : World} (hs : Sim P f h w) (e : TypeId) (s : ByteArray) :
    ∃ f1 r' w1, (Conv.stringToBytes e s).run P w = .ok r' w1 ∧ Step P f h w f1 (h ++ [.cells (bcells s) 1 true]) w1 ∧ VRel f1 (h.length + 1) (.slice (some ⟨h.length, 0, none⟩) s.size s.size) r' := by
  have hcap : ∃ cap, s.size ≤ cap ∧ (choose (.appendCap s.size 0 e)).run P w = .ok cap w.drew := by
    refine ⟨(Question.appendCap s.size 0 e).cut (w.tape w.drawn (.appendCap s.size 0 e)), ?_, ?_⟩
    · simp [Question.cut]
    · rw [run_choose]; simp [Question.forced]
  obtain ⟨cap, h1, h2⟩ := hcap
  have hcr := bcells_crel (f := f) (L := h.length) s
  have hsz := size_bcells s
  have hsd : Sim P f h w.drew := hs.congr rfl
  obtain ⟨C, hC⟩ : ∃ C, C = bcells s ++ Array.replicate (cap - s.size) (Value.int .u8 0) := ⟨_, rfl⟩
  have hCs : C.size = cap := by rw [hC]; simp only [Array.size_append, hsz, Array.size_replicate]; omega
  have halloc := Step.alloc hsd (.cells (bcells s) 1 true) (.cells C e (C.size, C.size + 1))
    ⟨w.drew.heap.size, 0, s.size, cap, 1⟩ rfl (by
      refine ⟨_, _, _, rfl, hsz, rfl, by simp only; omega, fun _ => ⟨by simp only [hCs]; omega, .inr (Nat.le_refl _), fun hh => absurd hh (by decide)⟩,
        by simp only [hCs]; omega, fun i hi => ?_⟩
      simp only [Nat.zero_add]
      rw [hC, getD_append_left' _ _ _ hi]
      exact hcr.2 i)
  refine ⟨_, .slice (some ⟨w.heap.size, 0, none⟩) s.size cap, _, ?_, Step.after_drew hs halloc, ?_⟩
  · have e0 : ((s.data.map fun (b : UInt8) => Value.int .u8 b.toNat) ++ Array.replicate (cap - s.size) (Value.int .u8 0)) = C := hC.symm
    have e2 : (w.drew.alloc (.cells C e)).shape? w.drew.heap.size = some (e, C.size) := by
      simp only [World.shape?, heap_alloc_new]
    simp only [Conv.stringToBytes, Sem.run_bind, h2, Result.andThen_ok, newRow, run_newObj, Sem.run_pure, markStringish, e0, World.alloc_eq]
    simp only [run_shape, Result.andThen_ok, e2, run_freeze, freeze_new, Sem.run_bind, Sem.run_pure]
    rfl
  · refine .slice h.length 0 _ _ _ _ _ (by omega) ?_ ?_ (.inr ⟨?_, ?_, ?_, h1⟩)
    · rw [upd_eq]; rfl
    · rw [upd_eq]
    · rw [upd_eq]; simp [show szOf 1 = 1 by decide]
    · rw [upd_eq]; simp [show szOf 1 = 1 by decide]
    · rw [upd_eq]; simp [show szOf 1 = 1 by decide]

theorem bytesIn_length (cs : List Value) : ∀ {l : List UInt8}, bytesIn cs = some l → l.length = cs.length := by
  induction cs with
  | nil => intro l h; simp [bytesIn] at h; subst h; rfl
  | cons v r ih =>
    intro l h
    cases v with
    | int k n =>
      cases k <;> simp [bytesIn] at h
      obtain ⟨l', h1, rfl⟩ := h
      simp [ih h1]
    | _ => simp [bytesIn] at h

theorem bytesIn_get {cs : List Value} : ∀ {l : List UInt8} {j : Nat} {v : Value}, bytesIn cs = some l → cs[j]? = some v → ∃ q, v = .int .u8 q ∧ l[j]? = some (UInt8.ofNat q.toNat) := by
  induction cs with
  | nil => intro l j v _ h; simp at h
  | cons x r ih =>
    intro l j v hl hj
    cases x with
    | int k n =>
      cases k <;> simp [bytesIn] at hl
      obtain ⟨l', h1, rfl⟩ := hl
      cases j with
      | zero => simp at hj; subst hj; exact ⟨n, rfl, by simp⟩
      | succ j => simpa using ih h1 (by simpa using hj)
    | _ => simp [bytesIn] at hl

theorem run_forIn_bytes {P : Program} {f : Emb} {L : Nat} (w : World) (g : Value → ByteArray → Sem (ForInStep ByteArray)) (hg : ∀ n s, (g (.int .u8 n) s).run P w = .ok (.yield (s.push (UInt8.ofNat n.toNat))) w)
    (cs : List Value) : ∀ (ds : List Value) (l : List UInt8) (s : ByteArray), cs.length = ds.length → (∀ i : Nat, VRel f L (cs.getD i Am.junk) (ds.getD i Am.junk)) → bytesIn cs = some l →
    (forIn ds s g).run P w = .ok ⟨s.data ++ l.toArray⟩ w := by
  induction cs with
  | nil =>
    intro ds l s hl hr h
    cases ds with
    | nil => simp [bytesIn] at h; subst h; simp
    | cons => simp at hl
  | cons v r ih =>
    intro ds l s hl hr h
    cases ds with
    | nil => simp at hl
    | cons d ds =>
      cases v with
      | int k n =>
        cases k <;> simp [bytesIn] at h
        obtain ⟨l', h1, rfl⟩ := h
        have h0 := (hr 0)
        simp only [List.getD_cons_zero] at h0
        cases h0.int_inv
        have := ih ds l' (s.push (UInt8.ofNat n.toNat)) (by simpa using hl) (fun i => by simpa using hr (i + 1)) h1
        simp only [List.forIn_cons, Sem.run_bind, hg, Result.andThen_ok]
        rw [this]
        congr 1
        apply ByteArray.ext
        simp [ByteArray.data_push]
      | _ => simp [bytesIn] at h

def aconvert (P : Program) (h : AH) (src dst : TypeId) (x : Value) : Option (Value × AH) :=
  match P.underlying src, P.underlying dst, x with
  | some _, some (.int k), .int _ n => some (.int k (k.wrap n), h)
  | some _, some .string, .string s => some (.string s, h)
  | some .string, some (.slice e), .string s => match P.underlying e with
    | some (.int .u8) => some (.slice (some ⟨h.length, 0, none⟩) s.size s.size, h ++ [.cells (bcells s) 1 true])
    | _ => none
  | some (.slice e), some .string, .slice none _ _ => match P.underlying e with
    | some (.int .u8) => some (.string .empty, h)
    | _ => none
  | some (.slice e), some .string, .slice (some ⟨b, o, none⟩) len cap => match P.underlying e with
    | some (.int .u8) => if len = 0 then some (.string .empty, h) else match h[b]? with
      | some (.cells c _ _) => if o + len ≤ c.size then (bytesIn (c.extract o (o + len)).toList).map fun l => (.string ⟨l.toArray⟩, h) else none
      | _ => none
    | _ => none
  | some (.slice e), some .string, .func (.yield 0) cs ks => match P.underlying e, fzN ks with
    | some (.int .u8), some n => if n ≤ cs.size then (bytesIn (cs.extract 0 n).toList).map fun l => (.string ⟨l.toArray⟩, h) else none
    | _, _ => none
  | some (.slice _), some (.slice e), .slice (some ⟨b, o, none⟩) len cap => match P.underlying e with
    | some (.int .u8) => if src = dst ∧ len ≠ 0 then match h[b]? with
      | some (.cells _ _ true) => some (.slice (some ⟨b, o, none⟩) len cap, h)
      | _ => none
      else none
    | _ => none
  | some (.pointer e), some .unsafePointer, .pointer (some ⟨b, o, none⟩) => match h[b]?, P.info? e with
    | some (.cells c _ _), some j => if o < c.size ∧ j.size ≠ 0 then some (.pointer (some ⟨b, o, none⟩), h) else none
    | _, _ => none
  | some .unsafePointer, some (.pointer u), .pointer (some ⟨b, o, none⟩) => match h[b]?, P.info? u with
    | some (.cells c es true), some j => if es = tagN + u ∧ o = 0 ∧ j.size ≠ 0 ∧ j.size ≤ c.size then some (.pointer (some ⟨b, o, none⟩), h) else none
    | _, _ => none
  | _, _, _ => none


theorem sameLayout_self (P : Program) (d : Nat) (t : TypeId) : sameLayout P (d + 1) t t = true := by
  unfold sameLayout; simp
theorem depth_succ (P : Program) : ∃ d, P.depth = d + 1 := ⟨2 * (P.types.size + Made.depth) + 1, rfl⟩
/-- a variable lies at the front of a row of its kind -/
theorem liesAt_front {P : Program} {u : TypeId} {n : Nat} (h : P.cellsOf u ≠ 0) (hn : 1 ≤ n) : liesAt P P.depth u n (0 + 0) u 1 = true := by
  obtain ⟨d, hd⟩ := depth_succ P
  have h1 : rowAt P (sameLayout P P.depth · u) P.depth u n (0 + 0) 1 = true := by
    rw [hd]
    unfold rowAt
    have h2 := sameLayout_self P d u
    simp [h, h2]
    left; omega
  have e : liesAt P P.depth u n (0 + 0) u 1 = liesAt P (d + 1) u n (0 + 0) u 1 := by rw [← hd]
  rw [e]
  unfold liesAt
  rw [h1]; rfl
/-- so many bytes lie in a row of them -/
theorem liesAt_row {P : Program} {u : TypeId} {n o m : Nat} (h : P.cellsOf u = 1) (hn : o + m ≤ n) : liesAt P P.depth u n o u m = true := by
  obtain ⟨d, hd⟩ := depth_succ P
  have h1 : rowAt P (sameLayout P P.depth · u) P.depth u n o m = true := by
    rw [hd]
    unfold rowAt
    have h2 := sameLayout_self P d u
    simp [h, h2, Nat.mod_one]
    left; omega
  have e : liesAt P P.depth u n o u m = liesAt P (d + 1) u n o u m := by rw [← hd]
  rw [e]
  unfold liesAt
  rw [h1]; rfl

theorem sound_convert {P : Program} {f : Emb} {h : AH} {w : World} (hs : Sim P f h w) {src dst : TypeId} {x x' : Value} (hx : VRel f h.length x x') {r : Value} {h1 : AH} (ha : aconvert P h src dst x = some (r, h1)) :
    ∃ f1 r' w1, (convert src dst x').run P w = .ok r' w1 ∧ Step P f h w f1 h1 w1 ∧ VRel f1 h1.length r r' := by
  unfold aconvert at ha
  split at ha
  · rename_i d k k0 n hu hv
    cases hx.int_inv
    cases ha
    exact ⟨f, _, w, by simp only [convert, Sem.run_bind, run_underlying hu, run_underlying hv, Result.andThen_ok, Conv.intToInt, Sem.run_pure], Step.refl hs, .int _ _⟩
  · rename_i d s hu hv
    cases hx.string_inv
    cases ha
    refine ⟨f, _, w, ?_, Step.refl hs, .string _⟩
    cases d <;> simp only [convert, Sem.run_bind, run_underlying hu, run_underlying hv, Result.andThen_ok, Sem.run_pure]
  · rename_i e s hu hv
    cases hx.string_inv
    split at ha
    · rename_i he
      cases ha
      obtain ⟨f1, r', w1, g1, g2, g3⟩ := sound_stringToBytes hs e s
      refine ⟨f1, r', w1, ?_, g2, by simpa using g3⟩
      simp only [convert, Sem.run_bind, run_underlying hu, run_underlying hv, run_underlying he, Result.andThen_ok, g1]
    · cases ha
  · rename_i e l c hu hv
    split at ha
    · rename_i he
      cases ha
      have hx' : x' = .slice none l c := plain_inv rfl hx
      subst hx'
      refine ⟨f, _, w, ?_, Step.refl hs, .string _⟩
      simp only [convert, Sem.run_bind, run_underlying hu, run_underlying hv, run_underlying he, Result.andThen_ok, Conv.bytesToString, Sem.run_pure]
    · cases ha
  · rename_i e b o len cap hu hv
    split at ha
    · rename_i he
      split at ha
      · rename_i h0
        subst h0
        cases ha
        have key : ∀ (a' : Addr) (c' : Nat), (convert src dst (.slice (some a') 0 c')).run P w = .ok (.string .empty) w := by
          intro a' c'
          simp only [convert, Sem.run_bind, run_underlying hu, run_underlying hv, run_underlying he, Result.andThen_ok, Conv.bytesToString, run_loadCells_zero]
          rfl
        rcases hx.slice_inv with ⟨c', rfl, _, _⟩ | ⟨_, _, a', rfl, _⟩
        · exact ⟨f, _, w, key _ _, Step.refl hs, .string _⟩
        · exact ⟨f, _, w, key _ _, Step.refl hs, .string _⟩
      · rename_i hnz
        split at ha
        · rename_i c es rw hb
          split at ha
          · rename_i hle
            simp only [Option.map_eq_some_iff, Prod.mk.injEq] at ha
            obtain ⟨l, hl, rfl, rfl⟩ := ha
            rcases hx.slice_inv with ⟨c', rfl, _, _⟩ | ⟨h0, _, _, _, _⟩
            · obtain ⟨ds, g1, g2, g3, g4⟩ := hs.loadCells hb o len hle
              refine ⟨f, .string ⟨l.toArray⟩, w, ?_, Step.refl hs, .string _⟩
              simp only [convert, Sem.run_bind, run_underlying hu, run_underlying hv, run_underlying he, Result.andThen_ok, Conv.bytesToString, g1]
              rw [← Array.forIn_toList]
              have hrel : ∀ i : Nat, VRel f h.length ((c.extract o (o + len)).toList.getD i Am.junk) (ds.toList.getD i Am.junk) := fun i => by
                have := g3 i
                rw [Array.getD_eq_getD_getElem?, Array.getD_eq_getD_getElem?, ← Array.getElem?_toList, ← Array.getElem?_toList] at this
                exact this
              rw [run_forIn_bytes (P := P) (f := f) (L := h.length) w _ ?hg (c.extract o (o + len)).toList ds.toList l .empty (by simp; omega) hrel hl]
              · simp only [Result.andThen_ok, Sem.run_pure]
                congr 2
                apply ByteArray.ext
                simp
              · intro n s
                rfl
            · exact absurd h0 hnz
          · cases ha
        · cases ha
    · cases ha
  · rename_i e cs ks hu hv
    obtain ⟨n0, rfl, hcz⟩ := hx.fz_inv
    rw [fzN_lit] at ha
    split at ha
    case h_2 => cases ha
    rename_i n he hn0
    cases hn0
    split at ha
    case isFalse => cases ha
    rename_i hle
    simp only [Option.map_eq_some_iff, Prod.mk.injEq] at ha
    obtain ⟨l, hl, rfl, rfl⟩ := ha
    rcases hcz with ⟨r0, o0, c0, ds0, rfl, hrom, hle2, hn, hxy, hone⟩ | ⟨rfl, rfl, a, c0, rfl⟩
    · obtain ⟨ds, g1, g2, g3, g4⟩ := (hs.heldRom hrom hle2 hxy hone).loadCells (P := P) 0 n0 (by omega)
      simp only [Nat.zero_add, Nat.add_zero] at g1 g3
      refine ⟨f, .string ⟨l.toArray⟩, w, ?_, Step.refl hs, .string _⟩
      simp only [convert, Sem.run_bind, run_underlying hu, run_underlying hv, run_underlying he, Result.andThen_ok, Conv.bytesToString, g1]
      rw [← Array.forIn_toList]
      have hrel : ∀ i : Nat, VRel f h.length ((cs.extract 0 n0).toList.getD i Am.junk) (ds.toList.getD i Am.junk) := fun i => by
        have := g3 i
        rw [Array.getD_eq_getD_getElem?, Array.getD_eq_getD_getElem?, ← Array.getElem?_toList, ← Array.getElem?_toList] at this
        exact this
      rw [run_forIn_bytes (P := P) (f := f) (L := h.length) w _ ?hg2 (cs.extract 0 n0).toList ds.toList l .empty (by simp; omega) hrel hl]
      · simp only [Result.andThen_ok, Sem.run_pure]
        congr 2
        apply ByteArray.ext
        simp
      · intro n s
        rfl
    · refine ⟨f, .string .empty, w, ?_, Step.refl hs, ?_⟩
      · simp only [convert, Sem.run_bind, run_underlying hu, run_underlying hv, run_underlying he, Result.andThen_ok, Conv.bytesToString, run_loadCells_zero]
        rfl
      · have : l = [] := by simpa [bytesIn] using hl.symm
        subst this
        exact .string _
  · rename_i e0 e b o len cap hu hv
    split at ha
    case h_2 => cases ha
    rename_i he
    split at ha
    case isFalse => cases ha
    rename_i hc
    obtain ⟨hsd, hl0⟩ := hc
    subst hsd
    split at ha
    case h_2 => cases ha
    rename_i c es hb
    simp only [Option.some.injEq, Prod.mk.injEq] at ha
    obtain ⟨rfl, rfl⟩ := ha
    rcases hx.slice_inv with ⟨c', rfl, hbL, hcap⟩ | ⟨h0, _, _, _, _⟩
    · obtain ⟨o', ho', hrel⟩ := hs.obj b _ hb rfl
      obtain ⟨cc, elem, fr, rfl, q2, q3, q4, q5, q6, q7⟩ := hrel
      have hlt : (f b).blk < w.heap.size := (Array.getElem?_eq_some_iff.1 ho').1
      have hsh : (markStringish ⟨(f b).blk, (f b).off + o, none⟩).run P w = .ok () (w.freeze ⟨(f b).blk, cc.size, none⟩ 1) := by
        have e1 : w.shape? (f b).blk = some (elem, cc.size) := by simp [World.shape?, ho']
        simp only [markStringish, shape, Sem.run_bind, Sem.run, Result.andThen_ok, e1, freeze]
      obtain ⟨fr2, hnf, hw1⟩ : ∃ fr2, NoFr fr2 cc.size ∧ (w.freeze ⟨(f b).blk, cc.size, none⟩ 1).heap[(f b).blk]? = some (.cells cc elem fr2) := by
        obtain ⟨lo, hi⟩ := fr
        have hn := (q5 rfl).2.nofr
        refine ⟨if lo == hi then (cc.size, cc.size + 1) else (min lo cc.size, max hi (cc.size + 1)), ?_, ?_⟩
        · by_cases e : lo = hi
          · rw [if_pos (by simpa using e)]; exact .inr (Nat.le_refl _)
          · rw [if_neg (by simpa using e)]
            rcases hn with hn | hn
            · exact absurd hn e
            · refine .inr ?_
              show cc.size ≤ min lo cc.size
              have : cc.size ≤ lo := hn
              omega
        simp only [World.freeze, Nat.one_ne_zero, if_false]
        rw [Array.getElem?_modify, if_pos rfl, ho']; rfl
      have st := Step.write (o1 := .cells c es true) (o1' := .cells cc elem fr2) (w1 := w.freeze ⟨(f b).blk, cc.size, none⟩ 1) hs hb rfl rfl ok_cells hw1
        ⟨cc, elem, fr2, rfl, q2, q3, q4, fun _ => ⟨(q5 rfl).1, hnf, (q5 rfl).2.tag⟩, q6, q7⟩ (fun r hr => by
          simp only [World.freeze, Nat.one_ne_zero, if_false]
          rw [Array.getElem?_modify, if_neg (fun e => hr e.symm)]) rfl rfl rfl (by simp [World.freeze])
      have hse : h.set b (.cells c es true) = h := by
        apply List.ext_getElem?
        intro i
        by_cases e : b = i
        · subst e
          rw [List.getElem?_set_self (List.getElem?_eq_some_iff.1 hb).1, hb]
        · rw [List.getElem?_set_ne e]
      rw [hse] at st
      refine ⟨f, .slice (some ⟨(f b).blk, (f b).off + o, none⟩) len c', _, ?_, st, ?_⟩
      · simp only [convert, Sem.run_bind, run_underlying hv, run_underlying he, Result.andThen_ok, beq_self_eq_true, hsh, Sem.run_pure]
      · exact .slice b o len cap c' _ _ (by simpa using hbL) rfl rfl hcap
    · exact absurd h0 hl0
  · rename_i e b o hu hv
    obtain ⟨rfl, hbL⟩ := hx.ptr_inv
    split at ha
    case h_2 => cases ha
    rename_i c es rw j hb hj
    split at ha
    case isFalse => cases ha
    rename_i hc
    cases ha
    obtain ⟨o', ho', cc, elem, fr, rfl, q2, q3, q4, q5, q6, q7⟩ := hs.obj b _ hb rfl
    refine ⟨f, .pointer (some ⟨(f b).blk, (f b).off + o, none⟩), w, ?_, Step.refl hs, .ptr b o _ _ hbL rfl rfl⟩
    exact Lib.run_to_unsafe (P := P) w ⟨(f b).blk, (f b).off + o, none⟩ hu hv hj hc.2 (e := elem) (cells := cc.size) (by simp [World.shape?, ho']) (by simp only; omega)
  · rename_i u b o hu hv
    obtain ⟨rfl, hbL⟩ := hx.ptr_inv
    split at ha
    case h_2 => cases ha
    rename_i c es j hb hj
    split at ha
    case isFalse => cases ha
    rename_i hc
    obtain ⟨rfl, rfl, hj0, hjc⟩ := hc
    cases ha
    obtain ⟨o', ho', cc, elem, fr, rfl, q2, q3, q4, q5, q6, q7⟩ := hs.obj b _ hb rfl
    obtain ⟨t1, t2, t3⟩ := (q5 rfl).2.tag (by omega)
    have hel : elem = u := (Nat.add_left_cancel t1).symm
    subst hel
    have hsz : P.cellsOf elem = j.size := by simp [Program.cellsOf, hj]
    refine ⟨f, .pointer (some ⟨(f b).blk, (f b).off + 0, none⟩), w, ?_, Step.refl hs, .ptr b 0 _ _ hbL rfl rfl⟩
    refine Lib.run_from_unsafe (P := P) w ⟨(f b).blk, (f b).off + 0, none⟩ hu hv hj (e := elem) (cells := cc.size) (by simp [World.shape?, ho']) ?_
    rw [t2, hsz]
    exact liesAt_front (by rw [hsz]; exact hj0) (Nat.div_pos (by omega) (by omega))
  · cases ha

end Go.Am
set_option linter.unusedVariables false
set_option linter.unusedSimpArgs false
/- Maps whose keys are rows of bools, numbers and strings. -/
namespace Go.Am
open Go

def sameKey (a b : Value) : Bool := Instr.sameBits 10000 a b

theorem lit_same {P : Program} {t : TypeId} {a b : Value} (ha : litCell P t a = true) (hb : litCell P t b = true) (m : Nat) : Instr.sameBits m a b = true ↔ a = b := by
  unfold litCell at ha hb
  cases hu : P.underlying t with
  | none => simp [hu] at ha
  | some d =>
    rw [hu] at ha hb
    cases d <;> cases a <;> simp at ha <;> cases b <;> simp at hb
    · simp [Instr.sameBits]
    · simp [Instr.sameBits]
    · rename_i x y
      simp only [Instr.sameBits, Value.string.injEq]
      constructor
      · intro h
        have : (x.data == y.data) = true := h
        exact ByteArray.ext (by simpa using this)
      · rintro rfl
        show (x.data == x.data) = true
        simp

theorem lits_same {P : Program} (m : Nat) : ∀ {ts : List TypeId} {xs ys : List Value}, litCells P ts xs = true → litCells P ts ys = true → ((xs.zip ys).all (fun (x, y) => Instr.sameBits m x y) = true ↔ xs = ys)
  | [], [], [], _, _ => by simp
  | t :: ts, x :: xs, y :: ys, h, k => by
    simp only [litCells, Bool.and_eq_true] at h k
    simp only [List.zip_cons_cons, List.all_cons, Bool.and_eq_true, List.cons.injEq]
    rw [lit_same h.1 k.1 m, lits_same m h.2 k.2]
  | [], _ :: _, _, h, _ => by simp [litCells] at h
  | [], [], _ :: _, _, h => by simp [litCells] at h
  | _ :: _, [], _, h, _ => by simp [litCells] at h
  | _ :: _, _ :: _, [], _, h => by simp [litCells] at h

theorem sameKey_iff {P : Program} {k : TypeId} {a b : Value} (ha : keyed P k a = true) (hb : keyed P k b = true) : sameKey a b = true ↔ a = b := by
  unfold keyed at ha hb
  cases hu : P.underlying k with
  | none => simp [hu] at ha
  | some d =>
    rw [hu] at ha hb
    have agg : ∀ {xs ys : Array Value} {ts : List TypeId}, litCells P ts xs.toList = true → litCells P ts ys.toList = true → (sameKey (.agg xs) (.agg ys) = true ↔ Value.agg xs = .agg ys) := by
      intro xs ys ts h1 h2
      have hsz : (xs.size == ys.size) = true := by
        have := litCells_length h1; have := litCells_length h2; simp at *; omega
      have e : sameKey (.agg xs) (.agg ys) = (xs.size == ys.size && (xs.toList.zip ys.toList).all fun (x, y) => Instr.sameBits 9999 x y) := rfl
      rw [e, hsz, Bool.true_and, lits_same 9999 h1 h2]
      constructor
      · intro h; congr 1; exact Array.ext' h
      · intro h; cases h; rfl
    have plain : litCell P k a = true → litCell P k b = true → (sameKey a b = true ↔ a = b) := fun h1 h2 => lit_same h1 h2 10000
    cases d with
    | struct fs =>
      cases a <;> simp at ha; cases b <;> simp at hb
      cases hf : flat P 8 k with
      | none => simp [hf] at ha
      | some ts => simp only [hf] at ha hb; exact agg ha hb
    | array n e =>
      cases a <;> simp at ha; cases b <;> simp at hb
      cases hf : flat P 8 k with
      | none => simp [hf] at ha
      | some ts => simp only [hf] at ha hb; exact agg ha hb
    | _ => exact plain ha hb

theorem litCell_plain {P : Program} {t : TypeId} {v : Value} (h : litCell P t v = true) : plain1 v = true := by
  unfold litCell at h
  cases hu : P.underlying t with
  | none => simp [hu] at h
  | some d => rw [hu] at h; cases d <;> cases v <;> simp at h <;> rfl

theorem litCells_plain {P : Program} : ∀ {ts : List TypeId} {vs : List Value}, litCells P ts vs = true → vs.all plain1 = true
  | [], [], _ => rfl
  | t :: ts, v :: vs, h => by
    simp only [litCells, Bool.and_eq_true] at h
    simp [litCell_plain h.1, litCells_plain h.2]
  | [], _ :: _, h => by simp [litCells] at h
  | _ :: _, [], h => by simp [litCells] at h

theorem keyed_plain {P : Program} {k : TypeId} {v : Value} (h : keyed P k v = true) : plainB v = true := by
  have one : plain1 v = true → plainB v = true := fun h => by cases v <;> simp_all [plain1, plainB]
  unfold keyed at h
  split at h
  · split at h
    · have := litCells_plain h; show Array.all _ plain1 = true; rw [← Array.all_toList]; exact this
    · cases h
  · split at h
    · have := litCells_plain h; show Array.all _ plain1 = true; rw [← Array.all_toList]; exact this
    · cases h
  · cases h
  · cases h
  · exact one (litCell_plain h)
  · cases h

/-- the first entry of a key, and its place -/
def findK (key : Value) : List MapEntry → Nat → Option (Nat × MapEntry)
  | [], _ => none
  | e :: es, i => if sameKey e.key key then some (i, e) else findK key es (i + 1)

theorem findK_none {P : Program} {k : TypeId} {key : Value} (hk : keyed P k key = true) : ∀ (es : List MapEntry) (i : Nat), (∀ e ∈ es, keyed P k e.key = true) → (findK key es i = none ↔ ∀ e ∈ es, e.key ≠ key) := by
  intro es
  induction es with
  | nil => intro i _; simp [findK]
  | cons e es ih =>
    intro i hall
    have he := hall e (List.mem_cons_self ..)
    unfold findK
    by_cases h : e.key = key
    · rw [if_pos ((sameKey_iff he hk).2 h)]
      simp [h]
    · rw [if_neg (fun x => h ((sameKey_iff he hk).1 x)), ih (i + 1) fun x hx => hall x (List.mem_cons_of_mem _ hx)]
      simp [h]

theorem findK_some {P : Program} {k : TypeId} {key : Value} (hk : keyed P k key = true) : ∀ (es : List MapEntry) (i : Nat) {j : Nat} {x : MapEntry}, (∀ e ∈ es, keyed P k e.key = true) → findK key es i = some (j, x) → i ≤ j ∧ es[j - i]? = some x ∧ x.key = key := by
  intro es
  induction es with
  | nil => intro i j x _ h; simp [findK] at h
  | cons e es ih =>
    intro i j x hall h
    have he := hall e (List.mem_cons_self ..)
    unfold findK at h
    split at h
    · rename_i hs
      simp only [Option.some.injEq, Prod.mk.injEq] at h
      obtain ⟨rfl, rfl⟩ := h
      exact ⟨Nat.le_refl _, by simp, (sameKey_iff he hk).1 hs⟩
    · obtain ⟨h1, h2, h3⟩ := ih (i + 1) (fun x hx => hall x (List.mem_cons_of_mem _ hx)) h
      refine ⟨by omega, ?_, h3⟩
      have : j - i = (j - (i + 1)) + 1 := by omega
      rw [this]
      simpa using h2

/-- what the world's map is, out of the abstract one -/
theorem Sim.mapRel {P : Program} {f : Emb} {h : AH} {w : World} (hs : Sim P f h w) {b : Nat} {k : TypeId} {es : Array MapEntry} {clock : Nat} (hb : h[b]? = some (.map k es clock)) :
    ∃ es' : Array MapEntry, w.heap[(f b).blk]? = some (.map es' clock) ∧ es.size = es'.size ∧ (∀ (i : Nat) (e : MapEntry), es[i]? = some e → ∃ e' : MapEntry, es'[i]? = some e' ∧ EntryRel f h.length e e') ∧
      MapOk P k es.toList clock ∧ es.toList.map (·.key) = es'.toList.map (·.key) ∧ es.toList.map (·.born) = es'.toList.map (·.born) := by
  obtain ⟨o', h1, es', rfl, h2, h3⟩ := hs.obj b _ hb rfl
  refine ⟨es', h1, h2, h3, hs.ok b _ hb, ?_, ?_⟩
  · apply List.ext_getElem (by simpa using h2)
    intro i g1 g2
    have hi : i < es.size := by simpa using g1
    obtain ⟨e', k1, k2, k3, k4⟩ := h3 i es[i] (by simp [hi])
    have hi' : i < es'.size := by omega
    rw [Array.getElem?_eq_getElem hi'] at k1
    cases k1
    simp [k2]
  · apply List.ext_getElem (by simpa using h2)
    intro i g1 g2
    have hi : i < es.size := by simpa using g1
    obtain ⟨e', k1, k2, k3, k4⟩ := h3 i es[i] (by simp [hi])
    have hi' : i < es'.size := by omega
    rw [Array.getElem?_eq_getElem hi'] at k1
    cases k1
    simp [k3]

theorem MapOk.keys' {P : Program} {k : TypeId} {es es' : List MapEntry} {clock : Nat} (m : MapOk P k es clock) (h : es.map (·.key) = es'.map (·.key)) : ∀ e ∈ es', keyed P k e.key = true := by
  intro e he
  have : e.key ∈ es.map (·.key) := by rw [h]; exact List.mem_map_of_mem he
  obtain ⟨x, hx, hx2⟩ := List.mem_map.1 this
  rw [← hx2]; exact m.keys x hx

/-- the world finds what is found -/
theorem find_run {P : Program} {k : TypeId} {es es' : List MapEntry} {clock : Nat} (hl : laidOutB P = true) (m : MapOk P k es clock) (hkeys : es.map (·.key) = es'.map (·.key)) {key : Value} (hk : keyed P k key = true) (w : World) :
    match findK key es 0 with
    | none => (Instr.findKey k key es').run P w = .ok none w
    | some (j, x) => ∃ e', es'[j]? = some e' ∧ e'.key = key ∧ es[j]? = some x ∧ x.key = key ∧ (Instr.findKey k key es').run P w = .ok (some (j, e'.val)) w := by
  have K := keyed_law hl m.ty
  obtain ⟨l, hkl⟩ := keyOf_keyed m.ty hk
  have hall := m.keys' hkeys
  have hlen : es.length = es'.length := by have := congrArg List.length hkeys; simpa using this
  have hat : ∀ (i : Nat) (e e' : MapEntry), es[i]? = some e → es'[i]? = some e' → e.key = e'.key := by
    intro i e e' h1 h2
    have := congrArg (·[i]?) hkeys
    simpa [List.getElem?_map, h1, h2] using this
  rcases K.find w hkl es' (fun e he => keyOf_keyed m.ty (hall e he)) with ⟨h1, h2⟩ | ⟨j, e', h1, h2, h3⟩
  · have hn : findK key es 0 = none := by
      rw [findK_none hk es 0 m.keys]
      intro e he e2
      obtain ⟨i, hi⟩ := List.mem_iff_getElem?.1 he
      have hlt : i < es'.length := by rw [← hlen]; exact (List.getElem?_eq_some_iff.1 hi).1
      exact h2 es'[i] (List.getElem_mem hlt) (by rw [← hat i e es'[i] hi (List.getElem?_eq_getElem hlt)]; exact e2)
    rw [hn]
    exact h1
  · have hlt : j < es.length := by rw [hlen]; exact (List.getElem?_eq_some_iff.1 h2).1
    have hje := List.getElem?_eq_getElem hlt
    have hkj : es[j].key = key := by rw [hat j _ e' hje h2]; exact h3
    cases hf : findK key es 0 with
    | none => exact absurd hkj ((findK_none hk es 0 m.keys).1 hf es[j] (List.getElem_mem hlt))
    | some p =>
      obtain ⟨j0, x⟩ := p
      obtain ⟨_, g1, g2⟩ := findK_some hk es 0 m.keys hf
      simp only [Nat.sub_zero] at g1
      have hj0 : j0 < es.length := (List.getElem?_eq_some_iff.1 g1).1
      have : j0 = j := by
        have hnd := m.apart
        have hge : es[j0] = x := by rw [List.getElem?_eq_getElem hj0] at g1; exact Option.some.inj g1
        rcases Nat.lt_trichotomy j0 j with h | h | h
        · exact absurd (by rw [List.getElem_map, List.getElem_map, hge, g2, hkj]) (List.pairwise_iff_getElem.1 hnd j0 j (by simpa using hj0) (by simpa using hlt) h)
        · exact h
        · exact absurd (by rw [List.getElem_map, List.getElem_map, hge, g2, hkj]) (List.pairwise_iff_getElem.1 hnd j j0 (by simpa using hlt) (by simpa using hj0) h)
      subst this
      exact ⟨e', h2, h3, g1, g2, h1⟩

def lookRes (ok : Bool) (v : Value) (b : Bool) : Value := if ok then .tuple #[v, .bool b] else v

/-- what a key holds -/
def lookK (ok : Bool) (z key : Value) (es : List MapEntry) : Value :=
  match findK key es 0 with
  | some (_, x) => lookRes ok x.val true
  | none => lookRes ok z false

theorem findK_append {key : Value} : ∀ (es es2 : List MapEntry) (i : Nat), findK key (es ++ es2) i = match findK key es i with | some p => some p | none => findK key es2 (i + es.length)
  | [], es2, i => by simp [findK]
  | e :: es, es2, i => by
    simp only [List.cons_append, findK, List.length_cons]
    split
    · rfl
    · rw [findK_append es es2 (i + 1)]
      rw [show i + 1 + es.length = i + (es.length + 1) by omega]

theorem findK_modify {P : Program} {k : TypeId} {key key2 : Value} (hk : keyed P k key = true) (hk2 : keyed P k key2 = true) {g : MapEntry → MapEntry} (hg : ∀ e, (g e).key = key) : ∀ (es : List MapEntry) (i : Nat) {j : Nat} {x : MapEntry}, (∀ e ∈ es, keyed P k e.key = true) → findK key es i = some (j, x) →
    findK key2 (es.modify (j - i) g) i = if sameKey key key2 = true then some (j, g x) else findK key2 es i := by
  intro es
  induction es with
  | nil => intro i j x _ h; simp [findK] at h
  | cons e es ih =>
    intro i j x hall h
    have he := hall e (List.mem_cons_self ..)
    unfold findK at h
    split at h
    · rename_i hs
      simp only [Option.some.injEq, Prod.mk.injEq] at h
      obtain ⟨rfl, rfl⟩ := h
      have hek := (sameKey_iff he hk).1 hs
      rw [Nat.sub_self, List.modify_zero_cons]
      unfold findK
      rw [hg]
      by_cases hy : sameKey key key2 = true
      · rw [if_pos hy, if_pos hy]
      · rw [if_neg hy, if_neg hy, hek, if_neg hy]
    · rename_i hs
      obtain ⟨h1, _, _⟩ := findK_some hk es (i + 1) (fun x hx => hall x (List.mem_cons_of_mem _ hx)) h
      have hj : j - i = (j - (i + 1)) + 1 := by omega
      rw [hj, List.modify_succ_cons]
      have := ih (i + 1) (fun x hx => hall x (List.mem_cons_of_mem _ hx)) h
      simp only [findK]
      rw [this]
      by_cases hy : sameKey key key2 = true
      · rw [if_pos hy]
        have := (sameKey_iff hk hk2).1 hy
        subst this
        rw [if_neg hs, if_pos hy]
      · simp only [hy]; rfl

/-- the zero of a type -/
def zeroOf (P : Program) (t : TypeId) : Option Value :=
  match P.info? t with
  | some i => match i.zero with
    | some z => if plainB z then some z else none
    | none => none
  | none => none

theorem zeroOf_run {P : Program} {t : TypeId} {z : Value} (h : zeroOf P t = some z) (w : World) : (zeroValue t).run P w = .ok z w ∧ plainB z = true := by
  unfold zeroOf at h
  split at h
  · rename_i i hi
    split at h
    · rename_i z0 hz
      split at h
      · rename_i hp; cases h; exact ⟨run_zeroValue hi hz w, hp⟩
      · cases h
    · cases h
  · cases h

def amLookup (P : Program) (h : AH) (t : TypeId) (m key : Value) (ok : Bool) : Option Value :=
  match P.underlying t with
  | some (.map k e) => match zeroOf P e with
    | some z => if keyed P k key = true then (match m with
      | .map none => if keyTy P k then some (lookRes ok z false) else none
      | .map (some b) => match h[b]? with
        | some (.map k' es _) => if k' = k then (match findK key es.toList 0 with
          | some (_, x) => some (lookRes ok x.val true)
          | none => some (lookRes ok z false)) else none
        | _ => none
      | _ => none) else none
    | none => none
  | _ => none

theorem lookRes_rel {f : Emb} {L : Nat} {v v' : Value} (h : VRel f L v v') (ok b : Bool) : VRel f L (lookRes ok v b) (if ok then .tuple #[v', .bool b] else v') := by
  unfold lookRes
  cases ok
  · exact h
  · refine .tuple _ _ rfl fun i => ?_
    match i with
    | 0 => exact h
    | 1 => exact .bool b
    | i + 2 => simp [Array.getD]; exact .junk _

theorem sound_lookup {P : Program} {f : Emb} {h : AH} {w : World} (hs : Sim P f h w) {t : TypeId} {m m' key key' : Value} (hm : VRel f h.length m m') (hkr : VRel f h.length key key') {ok : Bool} {r : Value} (ha : amLookup P h t m key ok = some r) :
    ∃ r', (Instr.lookup t m' key' ok).run P w = .ok r' w ∧ VRel f h.length r r' := by
  unfold amLookup at ha
  split at ha
  case h_2 => cases ha
  rename_i k e hu
  split at ha
  case h_2 => cases ha
  rename_i z hz
  obtain ⟨hz1, hz2⟩ := zeroOf_run hz w
  split at ha
  case isFalse => cases ha
  rename_i hk
  cases plain_inv (keyed_plain hk) hkr
  split at ha
  · split at ha
    case isFalse => cases ha
    rename_i hty
    cases ha
    have : m' = .map none := plain_inv rfl hm
    subst this
    obtain ⟨l, hkl⟩ := keyOf_keyed hty hk
    have K := keyed_law hs.laid hty
    have hf := K.find w hkl [] (by simp)
    have hf' : (Instr.findKey k key []).run P w = .ok none w := by
      rcases hf with ⟨h1, _⟩ | ⟨j, e0, _, h2, _⟩
      · exact h1
      · simp at h2
    refine ⟨_, ?_, lookRes_rel (plain_refl hz2) ok false⟩
    simp only [Instr.lookup, Sem.run_bind, run_underlying hu, Result.andThen_ok, Sem.run_pure, K.check w _ hkl, hf', hz1]
  · rename_i b
    obtain ⟨rfl, hbL⟩ := hm.map_inv
    split at ha
    case h_2 => cases ha
    rename_i k' es clock hb
    split at ha
    case isFalse => cases ha
    rename_i hkk
    subst hkk
    obtain ⟨es', g1, g2, g3, g4, g5, g6⟩ := hs.mapRel hb
    obtain ⟨l, hkl⟩ := keyOf_keyed g4.ty hk
    have K := keyed_law hs.laid g4.ty
    have hf := find_run hs.laid g4 g5 hk w
    split at ha
    · rename_i j x hx
      cases ha
      rw [hx] at hf
      obtain ⟨e', q1, q2, q3, q4, q5⟩ := hf
      have q3' : es[j]? = some x := by simpa using q3
      obtain ⟨e2, p1, p2, p3, p4⟩ := g3 j x q3'
      have : e2 = e' := by have q1' : es'[j]? = some e' := by simpa using q1
                           rw [q1'] at p1; cases p1; rfl
      subst this
      refine ⟨_, ?_, lookRes_rel p4 ok true⟩
      simp only [Instr.lookup, Sem.run_bind, run_underlying hu, Result.andThen_ok, Sem.run_pure, run_getObj_map g1, K.check w _ hkl, q5]
    · rename_i hx
      cases ha
      rw [hx] at hf
      refine ⟨_, ?_, lookRes_rel (plain_refl hz2) ok false⟩
      simp only [Instr.lookup, Sem.run_bind, run_underlying hu, Result.andThen_ok, Sem.run_pure, run_getObj_map g1, K.check w _ hkl, hf, hz1]
  · cases ha
end Go.Am
set_option linter.unusedVariables false
set_option linter.unusedSimpArgs false
/- Maps: what writes them. -/
namespace Go.Am
open Go

theorem mapOk_of {P : Program} {k : TypeId} {es es1 : List MapEntry} {clock : Nat} (m : MapOk P k es clock) (h1 : es1.map (·.key) = es.map (·.key)) (h2 : es1.map (·.born) = es.map (·.born)) : MapOk P k es1 clock := by
  refine ⟨m.ty, m.keys' h1.symm, by rw [h1]; exact m.apart, fun e he => ?_, by rw [h2]; exact m.born⟩
  have : e.born ∈ es.map (·.born) := by rw [← h2]; exact List.mem_map_of_mem he
  obtain ⟨x, hx, hx2⟩ := List.mem_map.1 this
  rw [← hx2]; exact m.old x hx

theorem mapOk_push {P : Program} {k : TypeId} {es : List MapEntry} {clock : Nat} (m : MapOk P k es clock) {key v : Value} (hk : keyed P k key = true) (hno : ∀ e ∈ es, e.key ≠ key) : MapOk P k (es ++ [⟨key, v, clock⟩]) (clock + 1) := by
  refine ⟨m.ty, fun e he => ?_, ?_, fun e he => ?_, ?_⟩
  · rcases List.mem_append.1 he with he | he
    · exact m.keys e he
    · simp at he; subst he; exact hk
  · rw [List.map_append, List.map_cons, List.map_nil]
    refine List.nodup_append.2 ⟨m.apart, by simp, fun a ha b hb => ?_⟩
    simp at hb
    subst hb
    obtain ⟨x, hx, rfl⟩ := List.mem_map.1 ha
    exact hno x hx
  · rcases List.mem_append.1 he with he | he
    · have := m.old e he; omega
    · simp at he; subst he; exact Nat.lt_succ_self _
  · rw [List.map_append, List.map_cons, List.map_nil]
    refine List.nodup_append.2 ⟨m.born, by simp, fun a ha b hb => ?_⟩
    simp at hb
    subst hb
    obtain ⟨x, hx, rfl⟩ := List.mem_map.1 ha
    have := m.old x hx
    omega

theorem mapOk_erase {P : Program} {k : TypeId} {es : List MapEntry} {clock : Nat} (m : MapOk P k es clock) (i : Nat) : MapOk P k (es.eraseIdx i) clock :=
  ⟨m.ty, fun e he => m.keys e (List.mem_of_mem_eraseIdx he), m.apart.sublist ((List.eraseIdx_sublist es i).map _), fun e he => m.old e (List.mem_of_mem_eraseIdx he), m.born.sublist ((List.eraseIdx_sublist es i).map _)⟩

theorem modify_keys {es : List MapEntry} {j : Nat} {g : MapEntry → MapEntry} (hg : ∀ e, es[j]? = some e → (g e).key = e.key) : (es.modify j g).map (·.key) = es.map (·.key) := by
  apply List.ext_getElem?
  intro i
  simp only [List.getElem?_map, List.getElem?_modify]
  cases h : es[i]? with
  | none => rfl
  | some e =>
    simp only [Option.map_eq_map, Option.map_some]
    split
    · rename_i hij; subst hij; rw [hg e h]
    · rfl
theorem modify_born {es : List MapEntry} {j : Nat} {g : MapEntry → MapEntry} (hg : ∀ e, (g e).born = e.born) : (es.modify j g).map (·.born) = es.map (·.born) := by
  apply List.ext_getElem?
  intro i
  simp only [List.getElem?_map, List.getElem?_modify]
  cases h : es[i]? with
  | none => rfl
  | some e =>
    simp only [Option.map_eq_map, Option.map_some]
    split
    · rw [hg e]
    · rfl

theorem sound_mapWrite {P : Program} {f : Emb} {h : AH} {w : World} (hs : Sim P f h w) {b : Nat} {k : TypeId} {es : Array MapEntry} {clock : Nat} (hb : h[b]? = some (.map k es clock)) {es1 es1' : Array MapEntry} {clock1 : Nat}
    (hsz : es1.size = es1'.size) (hrel : ∀ (i : Nat) (e : MapEntry), es1[i]? = some e → ∃ e' : MapEntry, es1'[i]? = some e' ∧ EntryRel f h.length e e') (hok : MapOk P k es1.toList clock1) :
    (setObj (f b).blk (.map es1' clock1)).run P w = .ok () { w with heap := w.heap.setIfInBounds (f b).blk (.map es1' clock1) } ∧
    Step P f h w f (h.set b (.map k es1 clock1)) { w with heap := w.heap.setIfInBounds (f b).blk (.map es1' clock1) } := by
  obtain ⟨es', g1, _⟩ := hs.mapRel hb
  have hlt : (f b).blk < w.heap.size := (Array.getElem?_eq_some_iff.1 g1).1
  refine ⟨MapKept.run_setObj_map _ g1, Step.write (o1 := .map k es1 clock1) (o1' := .map es1' clock1) hs hb rfl rfl hok ?_ ⟨es1', rfl, hsz, hrel⟩ ?_ rfl rfl rfl (by simp)⟩
  · simp [hlt]
  · intro r hr
    simp only [Array.getElem?_setIfInBounds_ne hr.symm]

/-- an entry written where it is -/
theorem modify_rel {f : Emb} {L : Nat} {es es' : Array MapEntry} (hrel : ∀ (i : Nat) (e : MapEntry), es[i]? = some e → ∃ e' : MapEntry, es'[i]? = some e' ∧ EntryRel f L e e') (j : Nat) {g g' : MapEntry → MapEntry}
    (hg : ∀ e e', es[j]? = some e → es'[j]? = some e' → EntryRel f L e e' → EntryRel f L (g e) (g' e')) : ∀ (i : Nat) (e : MapEntry), (es.modify j g)[i]? = some e → ∃ e' : MapEntry, (es'.modify j g')[i]? = some e' ∧ EntryRel f L e e' := by
  intro i e he
  rw [Array.getElem?_modify] at he ⊢
  cases h0 : es[i]? with
  | none => rw [h0] at he; split at he <;> cases he
  | some e0 =>
    rw [h0] at he
    obtain ⟨e0', h1, h2⟩ := hrel i e0 h0
    rw [h1]
    split at he
    · rename_i hij
      subst hij
      cases he
      rw [if_pos rfl]
      exact ⟨_, rfl, hg _ _ h0 h1 h2⟩
    · rename_i hij
      rw [if_neg hij]
      cases he
      exact ⟨_, rfl, h2⟩

theorem push_rel {f : Emb} {L : Nat} {es es' : Array MapEntry} (hsz : es.size = es'.size) (hrel : ∀ (i : Nat) (e : MapEntry), es[i]? = some e → ∃ e' : MapEntry, es'[i]? = some e' ∧ EntryRel f L e e') {x x' : MapEntry} (hx : EntryRel f L x x') :
    ∀ (i : Nat) (e : MapEntry), (es.push x)[i]? = some e → ∃ e' : MapEntry, (es'.push x')[i]? = some e' ∧ EntryRel f L e e' := by
  intro i e he
  rw [Array.getElem?_push] at he ⊢
  rw [← hsz]
  split at he
  · rename_i hi; rw [if_pos hi]; cases he; exact ⟨_, rfl, hx⟩
  · rename_i hi; rw [if_neg hi]; exact hrel i e he

/-- mapUpdate, insert -/
def amUpdate (P : Program) (h : AH) (t : TypeId) (m key v : Value) : Option AH :=
  match P.underlying t with
  | some (.map k _) => if keyed P k key = true then (match m with
    | .map (some b) => match h[b]? with
      | some (.map k' es clock) => if k' = k then (match findK key es.toList 0 with
        | some (j, _) => some (h.set b (.map k (es.modify j fun e => { e with key := key, val := v }) clock))
        | none => some (h.set b (.map k (es.push ⟨key, v, clock⟩) (clock + 1)))) else none
      | _ => none
    | _ => none) else none
  | _ => none

theorem sound_update {P : Program} {f : Emb} {h : AH} {w : World} (hs : Sim P f h w) {t : TypeId} {m m' key key' v v' : Value} (hm : VRel f h.length m m') (hkr : VRel f h.length key key') (hv : VRel f h.length v v') {h1 : AH} (ha : amUpdate P h t m key v = some h1) :
    ∃ w1, (Instr.mapUpdate t m' key' v').run P w = .ok () w1 ∧ Step P f h w f h1 w1 := by
  unfold amUpdate at ha
  split at ha
  case h_2 => cases ha
  rename_i k e hu
  split at ha
  case isFalse => cases ha
  rename_i hk
  cases plain_inv (keyed_plain hk) hkr
  split at ha
  case h_2 => cases ha
  rename_i b
  obtain ⟨rfl, hbL⟩ := hm.map_inv
  split at ha
  case h_2 => cases ha
  rename_i k' es clock hb
  split at ha
  case isFalse => cases ha
  rename_i hkk
  subst hkk
  obtain ⟨es', g1, g2, g3, g4, g5, g6⟩ := hs.mapRel hb
  obtain ⟨l, hkl⟩ := keyOf_keyed g4.ty hk
  have K := keyed_law hs.laid g4.ty
  have hf := find_run hs.laid g4 g5 hk w
  split at ha
  · rename_i j x hx
    cases ha
    rw [hx] at hf
    obtain ⟨e', q1, q2, q3, q4, q5⟩ := hf
    have q1' : es'[j]? = some e' := by simpa using q1
    have q3' : es[j]? = some x := by simpa using q3
    obtain ⟨r1, r2⟩ := sound_mapWrite hs hb (es1 := es.modify j fun e => { e with key := key, val := v }) (es1' := es'.modify j fun e => { e with key := key, val := v' }) (clock1 := clock) (by simpa using g2)
      (modify_rel g3 j fun e e' _ _ hr => ⟨rfl, hr.2.1, hv⟩) (mapOk_of g4 (by rw [Array.toList_modify]; exact modify_keys fun e he => by rw [q3] at he; cases he; exact q4.symm) (by rw [Array.toList_modify]; exact modify_born fun e => rfl))
    refine ⟨_, ?_, r2⟩
    have hst := K.stays w hkl
    simp only [Instr.mapUpdate, Sem.run_bind, run_underlying hu, Result.andThen_ok, run_getObj_map g1, K.check w _ hkl, q5, q1', Option.map_some, Option.getD_some, q2, hst, r1]
  · rename_i hx
    cases ha
    rw [hx] at hf
    have hno := (findK_none hk es.toList 0 g4.keys).1 hx
    obtain ⟨r1, r2⟩ := sound_mapWrite hs hb (es1 := es.push ⟨key, v, clock⟩) (es1' := es'.push ⟨key, v', clock⟩) (clock1 := clock + 1) (by simpa using g2)
      (push_rel g2 g3 ⟨rfl, rfl, hv⟩) (by rw [Array.toList_push]; exact mapOk_push g4 hk hno)
    refine ⟨_, ?_, r2⟩
    simp only [Instr.mapUpdate, Sem.run_bind, run_underlying hu, Result.andThen_ok, run_getObj_map g1, K.check w _ hkl, hf, r1]

/-- mapEntry: the entry of a key, made if there is none; its number -/
def amEntry (P : Program) (h : AH) (t : TypeId) (m key : Value) : Option (Value × AH) :=
  match P.underlying t with
  | some (.map k e) => match zeroOf P e with
    | some z => if keyed P k key = true then (match m with
      | .map (some b) => match h[b]? with
        | some (.map k' es clock) => if k' = k then (match findK key es.toList 0 with
          | some (j, x) => some (.tuple #[x.val, .int .i64 x.born], h.set b (.map k (es.modify j fun e => { e with key := key }) clock))
          | none => some (.tuple #[z, .int .i64 clock], h.set b (.map k (es.push ⟨key, z, clock⟩) (clock + 1)))) else none
        | _ => none
      | _ => none) else none
    | none => none
  | _ => none

theorem sound_entryAt {P : Program} {f : Emb} {h : AH} {w : World} (hs : Sim P f h w) {t : TypeId} {m m' key key' : Value} (hm : VRel f h.length m m') (hkr : VRel f h.length key key') {r : Value} {h1 : AH} (ha : amEntry P h t m key = some (r, h1)) :
    ∃ r' w1, (Instr.mapEntry t m' key').run P w = .ok r' w1 ∧ Step P f h w f h1 w1 ∧ VRel f h1.length r r' := by
  have two : ∀ {L : Nat} {v v' : Value} (n : Nat), VRel f L v v' → VRel f L (.tuple #[v, .int .i64 n]) (.tuple #[v', goInt n]) := by
    intro L v v' n hv
    refine .tuple _ _ rfl fun i => ?_
    match i with
    | 0 => exact hv
    | 1 => exact .int _ _
    | i + 2 => simp [Array.getD]; exact .junk _
  unfold amEntry at ha
  split at ha
  case h_2 => cases ha
  rename_i k e hu
  split at ha
  case h_2 => cases ha
  rename_i z hz
  obtain ⟨hz1, hz2⟩ := zeroOf_run hz w
  split at ha
  case isFalse => cases ha
  rename_i hk
  cases plain_inv (keyed_plain hk) hkr
  split at ha
  case h_2 => cases ha
  rename_i b
  obtain ⟨rfl, hbL⟩ := hm.map_inv
  split at ha
  case h_2 => cases ha
  rename_i k' es clock hb
  split at ha
  case isFalse => cases ha
  rename_i hkk
  subst hkk
  obtain ⟨es', g1, g2, g3, g4, g5, g6⟩ := hs.mapRel hb
  obtain ⟨l, hkl⟩ := keyOf_keyed g4.ty hk
  have K := keyed_law hs.laid g4.ty
  have hf := find_run hs.laid g4 g5 hk w
  split at ha
  · rename_i j x hx
    cases ha
    rw [hx] at hf
    obtain ⟨e', q1, q2, q3, q4, q5⟩ := hf
    have q1' : es'[j]? = some e' := by simpa using q1
    have q3' : es[j]? = some x := by simpa using q3
    obtain ⟨e2, p1, p2, p3, p4⟩ := g3 j x q3'
    have : e2 = e' := by rw [q1'] at p1; cases p1; rfl
    subst this
    obtain ⟨r1, r2⟩ := sound_mapWrite hs hb (es1 := es.modify j fun e => { e with key := key }) (es1' := es'.modify j fun e => { e with key := key }) (clock1 := clock) (by simpa using g2)
      (modify_rel g3 j fun e e' _ _ hr => ⟨rfl, hr.2.1, hr.2.2⟩) (mapOk_of g4 (by rw [Array.toList_modify]; exact modify_keys fun e he => by rw [q3] at he; cases he; exact q4.symm) (by rw [Array.toList_modify]; exact modify_born fun e => rfl))
    refine ⟨.tuple #[e2.val, goInt e2.born], _, ?_, r2, ?_⟩
    · have hst := K.stays w hkl
      simp only [Instr.mapEntry, Sem.run_bind, run_underlying hu, Result.andThen_ok, run_getObj_map g1, K.check w _ hkl, q5, q1', Option.map_some, Option.getD_some, q2, hst, r1, Sem.run_pure]
    · rw [p3]
      exact two x.born (by simpa using p4)
  · rename_i hx
    cases ha
    rw [hx] at hf
    have hno := (findK_none hk es.toList 0 g4.keys).1 hx
    obtain ⟨r1, r2⟩ := sound_mapWrite hs hb (es1 := es.push ⟨key, z, clock⟩) (es1' := es'.push ⟨key, z, clock⟩) (clock1 := clock + 1) (by simpa using g2)
      (push_rel g2 g3 ⟨rfl, rfl, plain_refl hz2⟩) (by rw [Array.toList_push]; exact mapOk_push g4 hk hno)
    refine ⟨.tuple #[z, goInt clock], _, ?_, r2, two clock (plain_refl hz2)⟩
    simp only [Instr.mapEntry, Sem.run_bind, run_underlying hu, Result.andThen_ok, run_getObj_map g1, K.check w _ hkl, hf, hz1, r1, Sem.run_pure]

/-- entryStore -/
def amEntryStore (h : AH) (m stamp v : Value) : Option AH :=
  match m, stamp with
  | .map (some b), .int .i64 n => match h[b]? with
    | some (.map k es clock) => match es.findIdx? (fun e => (e.born : Int) == n) with
      | some i => some (h.set b (.map k (es.modify i fun e => { e with val := v }) clock))
      | none => none
    | _ => none
  | _, _ => none

theorem sound_entryStore {P : Program} {f : Emb} {h : AH} {w : World} (hs : Sim P f h w) {t : TypeId} {m m' st st' v v' : Value} (hm : VRel f h.length m m') (hst : VRel f h.length st st') (hv : VRel f h.length v v') {h1 : AH} (ha : amEntryStore h m st v = some h1) :
    ∃ w1, (Instr.entryStore t m' st' v').run P w = .ok () w1 ∧ Step P f h w f h1 w1 := by
  unfold amEntryStore at ha
  split at ha
  case h_2 => cases ha
  rename_i b n
  cases hst.int_inv
  obtain ⟨rfl, hbL⟩ := hm.map_inv
  split at ha
  case h_2 => cases ha
  rename_i k es clock hb
  obtain ⟨es', g1, g2, g3, g4, g5, g6⟩ := hs.mapRel hb
  split at ha
  case h_2 => cases ha
  rename_i i hi
  cases ha
  have hi' : es'.findIdx? (fun e => (e.born : Int) == n) = some i := by
    have e0 : ∀ a : Array MapEntry, a.findIdx? (fun e => (e.born : Int) == n) = a.toList.findIdx? (fun e => (e.born : Int) == n) := fun ⟨l⟩ => by simp
    rw [e0] at hi ⊢
    have e1 : ∀ l : List MapEntry, l.findIdx? (fun e => (e.born : Int) == n) = (l.map fun (x : MapEntry) => x.born).findIdx? (fun (b : Nat) => (b : Int) == n) := fun l => by
      rw [List.findIdx?_map]; rfl
    rw [e1] at hi ⊢
    rw [← g6]; exact hi
  obtain ⟨r1, r2⟩ := sound_mapWrite hs hb (es1 := es.modify i fun e => { e with val := v }) (es1' := es'.modify i fun e => { e with val := v' }) (clock1 := clock) (by simpa using g2)
    (modify_rel g3 i fun e e' _ _ hr => ⟨hr.1, hr.2.1, hv⟩) (mapOk_of g4 (by rw [Array.toList_modify]; exact modify_keys fun e he => rfl) (by rw [Array.toList_modify]; exact modify_born fun e => rfl))
  refine ⟨_, ?_, r2⟩
  simp only [Instr.entryStore, Sem.run_bind, Sem.run_pure, Result.andThen_ok, run_getObj_map g1, asInt, asIntOf, hi', r1]

/-- delete -/
def amDelete (P : Program) (h : AH) (t : TypeId) (m key : Value) : Option (Value × AH) :=
  match P.underlying t with
  | some (.map k _) => if keyed P k key = true then (match m with
    | .map (some b) => match h[b]? with
      | some (.map k' es clock) => if k' = k then (match findK key es.toList 0 with
        | some (j, _) => some (.tuple #[], h.set b (.map k (es.eraseIdxIfInBounds j) clock))
        | none => some (.tuple #[], h.set b (.map k es clock))) else none
      | _ => none
    | _ => none) else none
  | _ => none

theorem erase_toList (es : Array MapEntry) (i : Nat) : (es.eraseIdxIfInBounds i).toList = es.toList.eraseIdx i := by
  unfold Array.eraseIdxIfInBounds
  split
  · simp
  · rw [List.eraseIdx_of_length_le]; simpa using Nat.le_of_not_lt ‹_›

theorem sound_delete {P : Program} {f : Emb} {h : AH} {w : World} (hs : Sim P f h w) {ts : Array TypeId} {t ty : TypeId} (hts : ts[0]? = some t) {m m' key key' : Value} (hm : VRel f h.length m m') (hkr : VRel f h.length key key') {r : Value} {h1 : AH} (ha : amDelete P h t m key = some (r, h1)) :
    ∃ r' w1, (Builtin.delete_ ts ty #[m', key']).run P w = .ok r' w1 ∧ Step P f h w f h1 w1 ∧ VRel f h1.length r r' := by
  have unit : ∀ L, VRel f L (.tuple #[]) (.tuple #[]) := fun L => .tuple #[] #[] rfl (fun i => by simp; exact .junk _)
  unfold amDelete at ha
  split at ha
  case h_2 => cases ha
  rename_i k e hu
  split at ha
  case isFalse => cases ha
  rename_i hk
  cases plain_inv (keyed_plain hk) hkr
  split at ha
  case h_2 => cases ha
  rename_i b
  obtain ⟨rfl, hbL⟩ := hm.map_inv
  split at ha
  case h_2 => cases ha
  rename_i k' es clock hb
  split at ha
  case isFalse => cases ha
  rename_i hkk
  subst hkk
  obtain ⟨es', g1, g2, g3, g4, g5, g6⟩ := hs.mapRel hb
  obtain ⟨l, hkl⟩ := keyOf_keyed g4.ty hk
  have K := keyed_law hs.laid g4.ty
  have hf := find_run hs.laid g4 g5 hk w
  split at ha
  · rename_i j x hx
    cases ha
    rw [hx] at hf
    obtain ⟨e', q1, q2, q3, q4, q5⟩ := hf
    obtain ⟨r1, r2⟩ := sound_mapWrite hs hb (es1 := es.eraseIdxIfInBounds j) (es1' := es'.eraseIdxIfInBounds j) (clock1 := clock)
      (by have := congrArg List.length (erase_toList es j); have h2 := congrArg List.length (erase_toList es' j); simp only [Array.length_toList, List.length_eraseIdx] at this h2; rw [this, h2, g2])
      (fun i e he => by
        rw [← Array.getElem?_toList, erase_toList, List.getElem?_eraseIdx] at he ⊢
        split at he
        · rename_i hlt; rw [if_pos hlt]
          obtain ⟨e2, k1, k2⟩ := g3 i e (by simpa using he)
          exact ⟨e2, by simpa using k1, k2⟩
        · rename_i hlt; rw [if_neg hlt]
          obtain ⟨e2, k1, k2⟩ := g3 (i + 1) e (by simpa using he)
          exact ⟨e2, by simpa using k1, k2⟩)
      (by rw [erase_toList]; exact mapOk_erase g4 j)
    refine ⟨.tuple #[], _, ?_, r2, unit _⟩
    simp only [Builtin.delete_, hts, List.getElem?_toArray, List.getElem?_cons_zero, List.getElem?_cons_succ, Sem.run_bind, run_underlying hu, Result.andThen_ok, run_getObj_map g1, K.check w _ hkl, q5, r1, Sem.run_pure]
  · rename_i hx
    cases ha
    rw [hx] at hf
    obtain ⟨r1, r2⟩ := sound_mapWrite hs hb (es1 := es) (es1' := es') (clock1 := clock) g2 g3 g4
    refine ⟨.tuple #[], _, ?_, r2, unit _⟩
    simp only [Builtin.delete_, hts, List.getElem?_toArray, List.getElem?_cons_zero, List.getElem?_cons_succ, Sem.run_bind, run_underlying hu, Result.andThen_ok, run_getObj_map g1, K.check w _ hkl, hf, r1, Sem.run_pure]
end Go.Am
