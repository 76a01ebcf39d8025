import Derived.Test.YtogefnepdjkioaaAm11
set_option linter.unusedVariables false
set_option linter.unusedSimpArgs false
/- Code over abstract heaps. -/
namespace Go.Am
open Go

def Forget (h0 : AH) (a : Array Value) (h : AH) (a1 : Array Value) (h1 : AH) : Prop :=
  (a1 = a ∧ h1 = h) ∨ ∃ σ, GC h0 σ h h1 ∧ a1.size = a.size ∧ ∀ i : Nat, VRen σ h1.length (a1.getD i junk) (a.getD i junk)

theorem gc_own {P : Program} {f0 f : Emb} {h0 h h1 : AH} {w0 : World} {σ : Nat → Nat} (g : GC h0 σ h h1)
    (own : ∀ b o, h[b]? = some o → o.rw = true → w0.heap.size ≤ (f b).blk ∨ ∃ b0 o0, h0[b0]? = some o0 ∧ o0.rw = true ∧ (f0 b0).blk = (f b).blk) :
    ∀ b o, h1[b]? = some o → o.rw = true → w0.heap.size ≤ (f (σ b)).blk ∨ ∃ b0 o0, h0[b0]? = some o0 ∧ o0.rw = true ∧ (f0 b0).blk = (f (σ b)).blk := by
  intro b o1 hb hrw
  obtain ⟨o, h2, h3⟩ := g.obj b o1 hb (rw_alive hrw)
  have : o.rw = true := by
    rcases h3 with ⟨_, _, rfl⟩ | h3
    · exact hrw
    · exact (h3.rw (rw_alive hrw)).2.trans hrw
  exact own (σ b) o h2 this

theorem Good.forget {P : Program} {f0 f : Emb} {h0 h h1 : AH} {w0 w : World} {a a1 : Array Value} {a' : Act} (s0 : Sim P f0 h0 w0) (g : Good P f0 h0 w0 f a h a' w) (fg : Forget h0 a h a1 h1) :
    ∃ f1, Good P f0 h0 w0 f1 a1 h1 a' w := by
  rcases fg with ⟨rfl, rfl⟩ | ⟨σ, gc, hsz, hv⟩
  · exact ⟨f, g⟩
  refine ⟨f.ren σ, ?_, ⟨hsz.trans g.tm.1, fun i => (hv i).comp (g.tm.2 i)⟩, g.df, g.keep, gc_own (P := P) (f := f) gc g.own, ⟨fun b hb => ?_, g.agree.2⟩, gc.len⟩
  · exact s0.gc g.sim g.agree gc
  · show f (σ b) = f0 b
    rw [gc.fix b hb]
    exact g.agree.1 b hb

/-- what is said of a frame and a heap may be said so, too -/
def Eases (P : Program) (h0 : AH) (a : Array Value) (h : AH) (a1 : Array Value) (h1 : AH) : Prop :=
  ∀ f0 w0 f a' w, Sim P f0 h0 w0 → Good P f0 h0 w0 f a h a' w → ∃ f1, Good P f0 h0 w0 f1 a1 h1 a' w

theorem Eases.refl {P : Program} {h0 : AH} {a : Array Value} {h : AH} : Eases P h0 a h a h := fun _ _ f _ _ _ g => ⟨f, g⟩
theorem Eases.trans {P : Program} {h0 : AH} {a a1 a2 : Array Value} {h h1 h2 : AH} (x : Eases P h0 a h a1 h1) (y : Eases P h0 a1 h1 a2 h2) : Eases P h0 a h a2 h2 :=
  fun f0 w0 f a' w s0 g => let ⟨f1, g1⟩ := x f0 w0 f a' w s0 g; y f0 w0 f1 a' w s0 g1
theorem Forget.eases {P : Program} {h0 : AH} {a a1 : Array Value} {h h1 : AH} (x : Forget h0 a h a1 h1) : Eases P h0 a h a1 h1 := fun _ _ _ _ _ s0 g => g.forget s0 x

def Lift (P : Program) (f0 : Emb) (h0 : AH) (w0 : World) (Q : Exit → Array Value → AH → Prop) : Exit → Act → World → Prop
  | .normal, a', w => ∃ f a h, Q .normal a h ∧ Good P f0 h0 w0 f a h a' w
  | .exit id, a', w => ∃ f a h, Q (.exit id) a h ∧ Good P f0 h0 w0 f a h a' w
  | .goto l, a', w => ∃ f a h, Q (.goto l) a h ∧ Good P f0 h0 w0 f a h a' w
  | .ret, a', w => ∃ f a h, Q .ret a h ∧ Good P f0 h0 w0 f a h a' w
  | .panic _, _, _ => False
  | .outgrown, _, _ => False

/-- the code, from a frame and an abstract heap, comes to Q -/
def AWP (P : Program) (h0 : AH) (c : Code) (Q : Exit → Array Value → AH → Prop) (a : Array Value) (h : AH) : Prop :=
  ∀ f0 w0 f a' w, Sim P f0 h0 w0 → Good P f0 h0 w0 f a h a' w → c.wp P (Lift P f0 h0 w0 Q) a' w

def aput (a : Array Value) (dst : Option Tmp) (v : Value) : Array Value :=
  match dst with
  | some d => a.setIfInBounds d v
  | none => a

/-- is the operation wanted? (none: it can't be told) -/
def gval (ops : Array Oper) (a : Array Value) (o : Oper) : Option Bool :=
  match o.guard with
  | none => some true
  | some (j, want) => match (ops[j]?).bind (·.dst) with
    | some d => match a.getD d junk with
      | .bool b => some (b == want)
      | .tuple _ => some false
      | _ => none
    | none => none

/-- operations, one behind the other -/
def awl (P : Program) (ops : Array Oper) (Q : Exit → Array Value → AH → Prop) : List Oper → Array Value → AH → Prop
  | [], a, h => Q .normal a h
  | o :: rest, a, h =>
    match gval ops a o with
    | some false => awl P ops Q rest (aput a o.dst undef) h
    | some true => match aop P (aeval P a) h o with
      | some (.val v h1) => awl P ops Q rest (aput a o.dst v) h1
      | some (.skip h1) => awl P ops Q rest (aput a o.dst undef) h1
      | some (.enter F args) => ∃ R, ACalls P F args h R ∧ ∀ v h1, R v h1 → awl P ops Q rest (aput a o.dst v) h1
      | some (.any S) => ∀ v h1, S v h1 → awl P ops Q rest (aput a o.dst v) h1
      | none => False
    | none => False

theorem undef_rel {f : Emb} {L : Nat} : VRel f L undef undef := .tuple #[] #[] rfl (fun i => by simp; exact .junk _)

theorem ARel.aput {f : Emb} {L : Nat} {a : Array Value} {a' : Act} (h : ARel f L a a'.tmps) (dst : Option Tmp) {v v' : Value} (hv : VRel f L v v') : ARel f L (aput a dst v) (a'.put dst v').tmps := by
  cases dst with
  | none => exact h
  | some d => exact h.set d hv

theorem put_defers (a' : Act) (dst : Option Tmp) (v : Value) : (a'.put dst v).defers = a'.defers := by cases dst <;> rfl

theorem gval_wanted {f : Emb} {L : Nat} {ops : Array Oper} {a : Array Value} {a' : Act} (h : ARel f L a a'.tmps) {o : Oper} {t : Bool} (hg : gval ops a o = some t) : Region.wanted o (yielded ops a'.tmps) = t := by
  unfold gval at hg
  unfold Region.wanted
  split at hg
  · rename_i hgd
    rw [hgd]
    simp only [Option.some.injEq] at hg
    simp [hg]
  · rename_i j want hgd
    rw [hgd]
    simp only
    split at hg
    · rename_i d hd
      have hr := h.2 d
      unfold yielded
      rw [hd]
      simp only [Option.bind_some]
      split at hg
      · rename_i b hb
        rw [hb] at hr
        have h2 := hr.bool_inv
        have hlt : d < a'.tmps.size := by
          by_cases hl : d < a'.tmps.size
          · exact hl
          · rw [getD_ge d hl] at h2; cases h2
        have h3 : a'.tmps[d]? = some (.bool b) := by
          have : a'.tmps.getD d junk = a'.tmps[d] := by simp [Array.getD, hlt]
          rw [this] at h2
          rw [Array.getElem?_eq_getElem hlt, h2]
        rw [h3]
        simp only [Option.some.injEq] at hg
        subst hg
        cases b <;> cases want <;> rfl
      · rename_i vs hb
        rw [hb] at hr
        obtain ⟨ds, h2, _⟩ := hr.tuple_inv
        have hlt : d < a'.tmps.size := by
          by_cases hl : d < a'.tmps.size
          · exact hl
          · rw [getD_ge d hl] at h2; cases h2
        have h3 : a'.tmps[d]? = some (.tuple ds) := by
          have : a'.tmps.getD d junk = a'.tmps[d] := by simp [Array.getD, hlt]
          rw [this] at h2
          rw [Array.getElem?_eq_getElem hlt, h2]
        rw [h3]
        simp only [Option.some.injEq] at hg
        subst hg
        cases want <;> rfl
      · cases hg
    · cases hg

/-- one operation of the world, out of the abstract one -/
theorem oper_wp {P : Program} {f0 : Emb} {h0 : AH} {w0 : World} {f : Emb} {a : Array Value} {h : AH} {a' : Act} {w : World} (g : Good P f0 h0 w0 f a h a' w) (o : Oper) {r : ARes} (hr : aop P (aeval P a) h o = some r)
    {K : Act → World → Prop} {Q : Exit → Act → World → Prop}
    (hk : match r with
      | .val v h1 => ∀ f1 b' w1, Good P f0 h0 w0 f1 (aput a o.dst v) h1 b' w1 → K b' w1
      | .skip h1 => ∀ f1 b' w1, Good P f0 h0 w0 f1 (aput a o.dst undef) h1 b' w1 → K b' w1
      | .enter F args => ∃ R, ACalls P F args h R ∧ ∀ v h1, R v h1 → ∀ f1 b' w1, Good P f0 h0 w0 f1 (aput a o.dst v) h1 b' w1 → K b' w1
      | .any S => ∀ v h1, S v h1 → ∀ f1 b' w1, Good P f0 h0 w0 f1 (aput a o.dst v) h1 b' w1 → K b' w1) :
    o.wp P a' w K Q := by
  have hs := sound_aop g.sim (fun x => aeval_rel g.sim g.tm x) o hr
  unfold Oper.wp
  cases r with
  | val v h1 =>
    obtain ⟨f1, v', w1, e, st, hv⟩ := hs
    rw [e, Oper.upon_value]
    exact hk f1 _ w1 (g.step st ((g.tm.step st).aput o.dst hv) (by rw [put_defers]; exact g.df))
  | skip h1 =>
    obtain ⟨f1, w1, e, st⟩ := hs
    rw [e, Oper.upon_skip]
    exact hk f1 _ w1 (g.step st ((g.tm.step st).aput o.dst undef_rel) (by rw [put_defers]; exact g.df))
  | enter F args =>
    obtain ⟨args', e, ha⟩ := hs
    obtain ⟨R, hc, hk⟩ := hk
    rw [e, Oper.upon_enter]
    refine (hc.run f w args' g.sim ha).mono fun e w1 hx => ?_
    obtain ⟨f1, v, v', h1, rfl, hR, st, hv⟩ := hx
    exact hk v h1 hR f1 _ w1 (g.step st ((g.tm.step st).aput o.dst hv) (by rw [put_defers]; exact g.df))
  | any S =>
    obtain ⟨f1, v, v', h1, w1, e, hS, st, hv⟩ := hs
    rw [e, Oper.upon_value]
    exact hk v h1 hS f1 _ w1 (g.step st ((g.tm.step st).aput o.dst hv) (by rw [put_defers]; exact g.df))

theorem awl_sound {P : Program} {ops : Array Oper} {Q : Exit → Array Value → AH → Prop} {f0 : Emb} {h0 : AH} {w0 : World} (l : List Oper) : ∀ {f : Emb} {a : Array Value} {h : AH} {a' : Act} {w : World},
    awl P ops Q l a h → Good P f0 h0 w0 f a h a' w → wpList P ops (Lift P f0 h0 w0 Q) l a' w := by
  induction l with
  | nil => intro f a h a' w ha g; exact ⟨f, a, h, ha, g⟩
  | cons o rest ih =>
    intro f a h a' w ha g
    unfold awl at ha
    split at ha
    · rename_i hg
      have hw := gval_wanted g.tm hg
      unfold wpList
      rw [if_neg (by simp [hw])]
      exact ih ha (g.step (Step.refl g.sim) (g.tm.aput o.dst undef_rel) (by rw [put_defers]; exact g.df))
    · rename_i hg
      have hw := gval_wanted g.tm hg
      unfold wpList
      rw [if_pos hw]
      left
      split at ha
      · rename_i v h1 hr
        exact oper_wp g o hr (fun f1 b' w1 g1 => ih ha g1)
      · rename_i h1 hr
        exact oper_wp g o hr (fun f1 b' w1 g1 => ih ha g1)
      · rename_i F args hr
        obtain ⟨R, hc, hk⟩ := ha
        exact oper_wp g o hr ⟨R, hc, fun v h1 hR f1 b' w1 g1 => ih (hk v h1 hR) g1⟩
      · rename_i S hr
        exact oper_wp g o hr fun v h1 hS f1 b' w1 g1 => ih (ha v h1 hS) g1
      · exact ha.elim
    · exact ha.elim

def thenA (next : Array Value → AH → Prop) (Q : Exit → Array Value → AH → Prop) : Exit → Array Value → AH → Prop
  | .normal, a, h => next a h
  | e, a, h => Q e a h

def inBlockA (id : Nat) (Q : Exit → Array Value → AH → Prop) : Exit → Array Value → AH → Prop
  | .exit id', a, h => if id' = id then Q .normal a h else Q (.exit id') a h
  | e, a, h => Q e a h

theorem AWP.region {P : Program} {h0 : AH} {id : Nat} {ops : Array Oper} {Q : Exit → Array Value → AH → Prop} {a : Array Value} {h : AH} (ha : awl P ops Q ops.toList a h) : AWP P h0 (.region id ops false) Q a h :=
  fun f0 w0 f a' w s0 g => wp_region_list (awl_sound ops.toList ha g)

theorem AWP.seq {P : Program} {h0 : AH} {x y : Code} {Q : Exit → Array Value → AH → Prop} {a : Array Value} {h : AH} (ha : AWP P h0 x (thenA (AWP P h0 y Q) Q) a h) : AWP P h0 (.seq x y) Q a h := by
  intro f0 w0 f a' w s0 g
  refine wp_seq (Go.wp_mono (ha f0 w0 f a' w s0 g) fun e a1 w1 hq => ?_)
  cases e with
  | normal => obtain ⟨f1, b, h1, hk, g1⟩ := hq; exact hk f0 w0 f1 a1 w1 s0 g1
  | exit id => exact hq
  | goto l => exact hq
  | ret => exact hq
  | panic c => exact hq
  | outgrown => exact hq

theorem AWP.block {P : Program} {h0 : AH} {id : Nat} {c : Code} {Q : Exit → Array Value → AH → Prop} {a : Array Value} {h : AH} (ha : AWP P h0 c (inBlockA id Q) a h) : AWP P h0 (.block id c) Q a h := by
  intro f0 w0 f a' w s0 g
  refine wp_block (Go.wp_mono (ha f0 w0 f a' w s0 g) fun e a1 w1 hq => ?_)
  cases e with
  | normal => exact hq
  | exit id' =>
    obtain ⟨f1, b, h1, hk, g1⟩ := hq
    simp only [inBlockA] at hk
    show if id' = id then _ else _
    split
    · rename_i he; rw [if_pos he] at hk; exact ⟨f1, b, h1, hk, g1⟩
    · rename_i he; rw [if_neg he] at hk; exact ⟨f1, b, h1, hk, g1⟩
  | goto l => exact hq
  | ret => exact hq
  | panic c => exact hq
  | outgrown => exact hq

theorem AWP.mono {P : Program} {h0 : AH} {c : Code} {Q Q' : Exit → Array Value → AH → Prop} {a : Array Value} {h : AH} (ha : AWP P h0 c Q a h) (hq : ∀ e a h, Q e a h → Q' e a h) : AWP P h0 c Q' a h := by
  intro f0 w0 f a' w s0 g
  refine Go.wp_mono (ha f0 w0 f a' w s0 g) fun e a1 w1 hx => ?_
  cases e with
  | normal => obtain ⟨f1, b, h1, hk, g1⟩ := hx; exact ⟨f1, b, h1, hq _ _ _ hk, g1⟩
  | exit id => obtain ⟨f1, b, h1, hk, g1⟩ := hx; exact ⟨f1, b, h1, hq _ _ _ hk, g1⟩
  | goto l => obtain ⟨f1, b, h1, hk, g1⟩ := hx; exact ⟨f1, b, h1, hq _ _ _ hk, g1⟩
  | ret => obtain ⟨f1, b, h1, hk, g1⟩ := hx; exact ⟨f1, b, h1, hq _ _ _ hk, g1⟩
  | panic c => exact hx
  | outgrown => exact hx

theorem AWP.forget {P : Program} {h0 : AH} {c : Code} {Q : Exit → Array Value → AH → Prop} {a a1 : Array Value} {h h1 : AH} (fg : Forget h0 a h a1 h1) (ha : AWP P h0 c Q a1 h1) : AWP P h0 c Q a h := by
  intro f0 w0 f a' w s0 g
  obtain ⟨f1, g1⟩ := g.forget s0 fg
  exact ha f0 w0 f1 a' w s0 g1

theorem AWP.ease {P : Program} {h0 : AH} {c : Code} {Q : Exit → Array Value → AH → Prop} {a a1 : Array Value} {h h1 : AH} (fg : Eases P h0 a h a1 h1) (ha : AWP P h0 c Q a1 h1) : AWP P h0 c Q a h := by
  intro f0 w0 f a' w s0 g
  obtain ⟨f1, g1⟩ := fg f0 w0 f a' w s0 g
  exact ha f0 w0 f1 a' w s0 g1

theorem wp_loop_ghost {P : Program} {c : Code} {Q : Exit → Act → World → Prop} (I : Nat → Act → World → Prop)
    (round : ∀ n a w, I n a w → c.wp P (Exit.then (fun a' w' => ∃ m, m < n ∧ I m a' w') Q) a w) {n : Nat} {a : Act} {w : World} (h0 : I n a w) : (Code.loop c).wp P Q a w := by
  have μ : ∀ a w, ∃ k, (∃ n, I n a w) → (I k a w ∧ ∀ m, I m a w → k ≤ m) := by
    intro a w
    by_cases hx : ∃ n, I n a w
    · obtain ⟨n, hn⟩ := hx
      induction n using Nat.strongRecOn with
      | _ n ih =>
        by_cases hl : ∃ m, m < n ∧ I m a w
        · obtain ⟨m, hm, hi⟩ := hl
          exact ih m hm hi
        · exact ⟨n, fun _ => ⟨hn, fun m hm => Nat.le_of_not_lt fun hlt => hl ⟨m, hlt, hm⟩⟩⟩
    · exact ⟨0, fun h => absurd h hx⟩
  refine wp_loop (fun a w => ∃ n, I n a w) (fun a w => Classical.choose (μ a w)) ⟨n, h0⟩ fun a w hI => ?_
  obtain ⟨h1, h2⟩ := Classical.choose_spec (μ a w) hI
  refine Go.wp_mono (round _ a w h1) fun e a' w' hq => ?_
  cases e with
  | normal =>
    obtain ⟨m, hm, hi⟩ := hq
    refine ⟨⟨m, hi⟩, ?_⟩
    have := (Classical.choose_spec (μ a' w') ⟨m, hi⟩).2 m hi
    show Classical.choose (μ a' w') < Classical.choose (μ a w)
    omega
  | _ => exact hq

/-- a loop: what holds at each round's head (after forgetting), and what goes down -/
theorem AWP.loopE {P : Program} {h0 : AH} {c : Code} {Q : Exit → Array Value → AH → Prop} {a : Array Value} {h : AH} (I : Nat → Array Value → AH → Prop) {n : Nat} (hI : I n a h)
    (round : ∀ n a h, I n a h → AWP P h0 c (thenA (fun a1 h1 => ∃ m a2 h2, m < n ∧ Eases P h0 a1 h1 a2 h2 ∧ I m a2 h2) Q) a h) : AWP P h0 (.loop c) Q a h := by
  intro f0 w0 f a' w s0 g
  refine wp_loop_ghost (fun n a' w => ∃ f a h, I n a h ∧ Good P f0 h0 w0 f a h a' w) (fun n a' w hx => ?_) (n := n) ⟨f, a, h, hI, g⟩
  obtain ⟨f1, b, h1, hi, g1⟩ := hx
  refine Go.wp_mono (round n b h1 hi f0 w0 f1 a' w s0 g1) fun e a1 w1 hq => ?_
  cases e with
  | normal =>
    obtain ⟨f2, b2, h2, ⟨m, a3, h3, hm, fg, hi3⟩, g2⟩ := hq
    obtain ⟨f3, g3⟩ := fg f0 w0 f2 a1 w1 s0 g2
    exact ⟨m, hm, f3, a3, h3, hi3, g3⟩
  | exit id => exact hq
  | goto l => exact hq
  | ret => exact hq
  | panic c => exact hq
  | outgrown => exact hq

theorem AWP.loop {P : Program} {h0 : AH} {c : Code} {Q : Exit → Array Value → AH → Prop} {a : Array Value} {h : AH} (I : Nat → Array Value → AH → Prop) {n : Nat} (hI : I n a h)
    (round : ∀ n a h, I n a h → AWP P h0 c (thenA (fun a1 h1 => ∃ m a2 h2, m < n ∧ Forget h0 a1 h1 a2 h2 ∧ I m a2 h2) Q) a h) : AWP P h0 (.loop c) Q a h :=
  AWP.loopE I hI fun n a h hi => AWP.mono (round n a h hi) fun e a1 h1 hq => by
    cases e with
    | normal => obtain ⟨m, a2, h2, hm, fg, hi⟩ := hq; exact ⟨m, a2, h2, hm, fg.eases, hi⟩
    | _ => exact hq

/-! ### code, taken apart -/
def ax (P : Program) (h0 : AH) : Code → (Exit → Array Value → AH → Prop) → Array Value → AH → Prop
  | .skip, Q, a, h => Q .normal a h
  | .region _ ops false, Q, a, h => awl P ops Q ops.toList a h
  | .seq x y, Q, a, h => ax P h0 x (thenA (ax P h0 y Q) Q) a h
  | .cond c x y, Q, a, h => ∃ t, aeval P a c = .bool t ∧ (t = true → ax P h0 x Q a h) ∧ (t = false → ax P h0 y Q a h)
  | .block id c, Q, a, h => ax P h0 c (inBlockA id Q) a h
  | .exit id, Q, a, h => Q (.exit id) a h
  | .ret, Q, a, h => Q .ret a h
  | .label _, Q, a, h => Q .normal a h
  | c, Q, a, h => AWP P h0 c Q a h

theorem thenA_mono {next next' : Array Value → AH → Prop} {Q : Exit → Array Value → AH → Prop} (h : ∀ a h, next a h → next' a h) : ∀ e a h, thenA next Q e a h → thenA next' Q e a h := by
  intro e a h' hq; cases e <;> first | exact h _ _ hq | exact hq

theorem ax_sound {P : Program} {h0 : AH} (c : Code) : ∀ (Q : Exit → Array Value → AH → Prop) (a : Array Value) (h : AH), ax P h0 c Q a h → AWP P h0 c Q a h := by
  induction c with
  | skip => intro Q a h ha f0 w0 f a' w s0 g; exact Go.wp_skip ⟨f, a, h, ha, g⟩
  | region id ops draw =>
    intro Q a h ha
    cases draw with
    | false => exact AWP.region ha
    | true => exact ha
  | seq x y ihx ihy => intro Q a h ha; exact AWP.seq (AWP.mono (ihx _ a h ha) (thenA_mono fun a h hx => ihy Q a h hx))
  | cond c x y ihx ihy =>
    intro Q a h ha f0 w0 f a' w s0 g
    obtain ⟨t, ht, h1, h2⟩ := ha
    have hc := aeval_rel g.sim g.tm c
    rw [ht] at hc
    refine wp_cond_split hc.bool_inv (fun e => ?_) (fun e => ?_)
    · exact ihx Q a h (h1 e) f0 w0 f a' w s0 g
    · exact ihy Q a h (h2 e) f0 w0 f a' w s0 g
  | block id c ih => intro Q a h ha; exact AWP.block (ih _ a h ha)
  | loop c ih => intro Q a h ha; exact ha
  | rangeFunc f ps as c ih1 ih2 => intro Q a h ha; exact ha
  | exit id => intro Q a h ha f0 w0 f a' w s0 g; exact Go.wp_exit ⟨f, a, h, ha, g⟩
  | scope c ih => intro Q a h ha; exact ha
  | label l => intro Q a h ha f0 w0 f a' w s0 g; exact Go.wp_label ⟨f, a, h, ha, g⟩
  | goto l => intro Q a h ha; exact ha
  | ret => intro Q a h ha f0 w0 f a' w s0 g; exact Go.wp_ret ⟨f, a, h, ha, g⟩
  | refuse why => intro Q a h ha; exact ha

/-! ### functions -/
def ares1 (P : Program) (a : Array Value) (h : AH) : ResultVar → Option Value
  | .tmp t => some (a.getD t junk)
  | .cell p t => aload P h t (a.getD p junk)

def aresL (P : Program) (a : Array Value) (h : AH) : List ResultVar → Option (List Value)
  | [] => some []
  | r :: rest => match ares1 P a h r, aresL P a h rest with
    | some v, some vs => some (v :: vs)
    | _, _ => none

def aresults (P : Program) (fn : Func) (a : Array Value) (h : AH) : Option Value :=
  match aresL P a h fn.results.toList with
  | some [v] => some v
  | some vs => some (.tuple vs.toArray)
  | none => none

/-- what a function's value and heap may be said to be, shorter -/
def ForgetV (h0 : AH) (v : Value) (h : AH) (v1 : Value) (h1 : AH) : Prop := (v1 = v ∧ h1 = h) ∨ ∃ σ, GC h0 σ h h1 ∧ VRen σ h1.length v1 v

theorem ForgetV.eases {P : Program} {h0 h h1 : AH} {v v1 : Value} (x : ForgetV h0 v h v1 h1) : Eases P h0 #[v] h #[v1] h1 := by
  refine Forget.eases ?_
  rcases x with ⟨rfl, rfl⟩ | ⟨σ, g, r⟩
  · exact .inl ⟨rfl, rfl⟩
  · refine .inr ⟨σ, g, rfl, fun i => ?_⟩
    cases i with
    | zero => exact r
    | succ i => simp [Array.getD]; exact .junk _

def apost (P : Program) (h0 : AH) (fn : Func) (R : Value → AH → Prop) : Exit → Array Value → AH → Prop
  | .normal, a, h | .ret, a, h => ∃ v v1 h1, aresults P fn a h = some v ∧ Eases P h0 #[v] h #[v1] h1 ∧ R v1 h1
  | _, _, _ => False

theorem run_resL {P : Program} {f : Emb} {h : AH} {w : World} {a : Array Value} {a' : Act} (hs : Sim P f h w) (ht : ARel f h.length a a'.tmps) (l : List ResultVar) : ∀ {vs : List Value}, aresL P a h l = some vs →
    ∃ vs', (l.mapM (fun | .tmp t => pure (a'.tmps.getD t undef) | .cell p t => do loadVar t (← asAddr (a'.tmps.getD p undef)) : ResultVar → Sem Value)).run P w = .ok vs' w ∧ vs.length = vs'.length ∧ ∀ i : Nat, VRel f h.length (vs.getD i junk) (vs'.getD i junk) := by
  induction l with
  | nil => intro vs h1; simp [aresL] at h1; subst h1; exact ⟨[], by simp, rfl, fun i => by simp; exact .junk _⟩
  | cons r rest ih =>
    intro vs h1
    unfold aresL at h1
    split at h1
    · rename_i v vs0 hv hvs
      simp only [Option.some.injEq] at h1
      subst h1
      obtain ⟨vs', g1, g2, g3⟩ := ih hvs
      have hrun : ∃ v', ((fun | .tmp t => pure (a'.tmps.getD t undef) | .cell p t => do loadVar t (← asAddr (a'.tmps.getD p undef)) : ResultVar → Sem Value) r).run P w = .ok v' w ∧ VRel f h.length v v' := by
        cases r with
        | tmp t =>
          simp only [ares1, Option.some.injEq] at hv
          subst hv
          have := aeval_rel hs ht (.tmp t)
          exact ⟨a'.tmps.getD t undef, rfl, this⟩
        | cell p t =>
          simp only [ares1] at hv
          have hp := aeval_rel hs ht (.tmp p)
          simp only [aeval, Act.eval] at hp
          generalize ha : a.getD p junk = av at hp hv
          generalize ha' : a'.tmps.getD p undef = av' at hp
          cases hp with
          | ptr b o r' o' hb hr ho =>
            subst hr; subst ho
            obtain ⟨r1, k1, k2⟩ := sound_loadVar hs hv
            exact ⟨r1, by simp only [ha', asAddr, Sem.run_bind, Sem.run_pure, Result.andThen_ok, k1], k2⟩
          | fp cs k r' o o' ds hrom hle ho hxy hone =>
            subst ho
            simp only [aload, fzN_lit] at hv
            obtain ⟨r1, k1, k2⟩ := (hs.heldRom hrom hle hxy hone).loadVar hv
            exact ⟨r1, by simp only [ha', asAddr, Sem.run_bind, Sem.run_pure, Result.andThen_ok, k1], k2⟩
          | func fn xs ys cs ds hfn => exfalso; cases fn <;> simp [Fn.plain, aload] at hfn hv
          | _ => simp [aload, junk] at hv
      obtain ⟨v', k1, k2⟩ := hrun
      refine ⟨v' :: vs', ?_, by simp [g2], fun i => ?_⟩
      · rw [List.mapM_cons, Sem.run_bind, k1, Result.andThen_ok, Sem.run_bind, g1]
        rfl
      · cases i with
        | zero => simpa using k2
        | succ i => simpa using g3 i
    · cases h1

theorem run_results {P : Program} {f : Emb} {h : AH} {w : World} {fn : Func} {a : Array Value} {a' : Act} (hs : Sim P f h w) (ht : ARel f h.length a a'.tmps) {v : Value} (hv : aresults P fn a h = some v) :
    ∃ v', (results fn a'.tmps).run P w = .ok v' w ∧ VRel f h.length v v' := by
  unfold aresults at hv
  have key : ∀ vs, aresL P a h fn.results.toList = some vs → ∃ vs' : Array Value, (fn.results.mapM (fun | .tmp t => pure (a'.tmps.getD t undef) | .cell p t => do loadVar t (← asAddr (a'.tmps.getD p undef)) : ResultVar → Sem Value)).run P w = .ok vs' w ∧ vs.length = vs'.size ∧ ∀ i : Nat, VRel f h.length (vs.getD i junk) (vs'.getD i junk) := by
    intro vs hvs
    obtain ⟨vs', g1, g2, g3⟩ := run_resL hs ht fn.results.toList hvs
    refine ⟨vs'.toArray, ?_, by simpa using g2, fun i => by simpa [Array.getD_eq_getD_getElem?, List.getD] using g3 i⟩
    rw [Array.mapM_eq_mapM_toList, Sem.run_map, g1]
    rfl
  have e0 : (results fn a'.tmps).run P w = ((fn.results.mapM (fun | .tmp t => pure (a'.tmps.getD t undef) | .cell p t => do loadVar t (← asAddr (a'.tmps.getD p undef)) : ResultVar → Sem Value)).run P w).andThen
      fun vs w' => (pure (if h : vs.size = 1 then vs[0] else .tuple vs) : Sem Value).run P w' := by
    unfold results
    exact Sem.run_bind P w _ _
  split at hv
  · rename_i v0 hvs
    cases hv
    obtain ⟨vs', g1, g2, g3⟩ := key _ hvs
    have hsz : vs'.size = 1 := by simpa using g2.symm
    refine ⟨vs'[0], ?_, ?_⟩
    · rw [e0, g1, Result.andThen_ok]
      simp [hsz]
    · have := g3 0
      simpa [Array.getD, hsz] using this
  · rename_i vs hne hvs
    cases hv
    obtain ⟨vs', g1, g2, g3⟩ := key _ hvs
    have hsz : ¬ vs'.size = 1 := by
      intro e
      rw [e] at g2
      match vs, g2 with
      | [x], _ => exact hne x rfl
    refine ⟨.tuple vs', ?_, .tuple _ _ (by simpa using g2) (fun i => by simpa [Array.getD_eq_getD_getElem?, List.getD] using g3 i)⟩
    rw [e0, g1, Result.andThen_ok]
    simp [hsz]
  · cases hv

theorem ACalls.of_awp {P : Program} {F : FuncId} {fn : Func} {c : Code} (hf : P.funcs[F]? = some fn) (hb : fn.body = some c) {args : Array Value} {h : AH} {R : Value → AH → Prop} (inh : ∃ v h', R v h')
    (ha : AWP P h c (apost P h fn R) (args ++ Array.replicate (fn.ntmps - args.size) undef) h) : ACalls P F args h R := by
  refine ⟨inh, fun f w args' s0 hargs => ?_⟩
  have g : Good P f h w f (args ++ Array.replicate (fn.ntmps - args.size) undef) h { tmps := args' ++ Array.replicate (fn.ntmps - args'.size) undef, defers := [] } w := by
    refine ⟨s0, ?_, rfl, Keep.refl _ _ _, fun b o hb ho => .inr ⟨b, o, hb, ho, rfl⟩, .refl _ _, Nat.le_refl _⟩
    refine arel_append hargs ?_
    rw [hargs.1]
    refine ⟨rfl, fun i => ?_⟩
    by_cases hi : i < fn.ntmps - args'.size
    · have : (Array.replicate (fn.ntmps - args'.size) undef).getD i junk = undef := by simp [Array.getD, hi]
      rw [this]; exact undef_rel
    · rw [getD_ge i (by simpa using hi)]; exact .junk _
  refine calls_of_wp hf hb (Go.wp_mono (ha f w f _ w s0 g) fun e a1 w1 hq => ?_)
  have fin : ∀ (f1 : Emb) (b : Array Value) (h1 : AH), (∃ v v1 h2, aresults P fn b h1 = some v ∧ Eases P h #[v] h1 #[v1] h2 ∧ R v1 h2) → Good P f h w f1 b h1 a1 w1 →
      a1.defers = [] ∧ ∃ v, (results fn a1.tmps).run P w1 = .ok v w1 ∧ ∃ f' v0 v' h', Ending.returned v = .returned v' ∧ R v0 h' ∧ Step P f h w f' h' w1 ∧ VRel f' h'.length v0 v' := by
    intro f1 b h1 hx g1
    obtain ⟨v, v1, h2, hv, hfg, hR⟩ := hx
    obtain ⟨v', k1, k2⟩ := run_results g1.sim g1.tm hv
    have g2 : Good P f h w f1 #[v] h1 { tmps := #[v'], defers := [] } w1 := ⟨g1.sim, ⟨rfl, fun i => by
      cases i with
      | zero => exact k2
      | succ i => simp [Array.getD]; exact .junk _⟩, rfl, g1.keep, g1.own, g1.agree, g1.len⟩
    obtain ⟨f2, g3⟩ := hfg f w f1 _ w1 s0 g2
    exact ⟨g1.df, v', k1, f2, v1, v', h2, rfl, hR, ⟨g3.sim, g3.agree, g3.len, g3.keep, g3.own⟩, by simpa using g3.tm.2 0⟩
  cases e with
  | normal => obtain ⟨f1, b, h1, hk, g1⟩ := hq; exact fin f1 b h1 hk g1
  | ret => obtain ⟨f1, b, h1, hk, g1⟩ := hq; exact fin f1 b h1 hk g1
  | exit id => obtain ⟨f1, b, h1, hk, g1⟩ := hq; exact hk.elim
  | goto l => obtain ⟨f1, b, h1, hk, g1⟩ := hq; exact hk.elim
  | panic c => exact hq.elim
  | outgrown => exact hq.elim

theorem ACalls.of_ax {P : Program} {F : FuncId} {fn : Func} {c : Code} (hf : P.funcs[F]? = some fn) (hb : fn.body = some c) {args : Array Value} {h : AH} {R : Value → AH → Prop} (inh : ∃ v h', R v h')
    (ha : ax P h c (apost P h fn R) (args ++ Array.replicate (fn.ntmps - args.size) undef) h) : ACalls P F args h R :=
  ACalls.of_awp hf hb inh (ax_sound c _ _ _ ha)

end Go.Am
