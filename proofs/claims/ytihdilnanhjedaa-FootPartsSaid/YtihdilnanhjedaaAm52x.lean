import Derived.Test.YtihdilnanhjedaaAm49x
import Derived.RangeFuncIn
import Derived.RangeFuncRecord
import Derived.RangeFuncLeaves
import Derived.RangeFuncNested
import Derived.Shelf.SlSortCmp.NoneTotal
import Derived.Sort.LotA
set_option linter.unusedVariables false
set_option linter.unusedSimpArgs false
/- Loops over functions. -/
namespace Go.Am
open Go

/-- what no abstract heap holds -/
def farO : Obj → Bool
  | .loop _ => true
  | .deferred _ => true
  | _ => false

theorem Sim.notIm {P : Program} {f : Emb} {h : AH} {w : World} (hs : Sim P f h w) {L : Nat} {o : Obj} (hL : w.heap[L]? = some o) (ho : farO o = true) : ∀ (b : Nat) (x : AObj), h[b]? = some x → x.alive = true → (f b).blk ≠ L := by
  intro b x hb ha he
  obtain ⟨o', k1, k2⟩ := hs.obj b x hb ha
  rw [he, hL] at k1; cases k1
  cases x with
  | dead => cases ha
  | cells c es rw => obtain ⟨c', el, fr, k3, _⟩ := k2; subst k3; cases ho
  | map k es clock => obtain ⟨es', k3, _⟩ := k2; subst k3; cases ho
  | miter m s seen st => obtain ⟨_, m', k3, _⟩ := k2; subst k3; cases ho

theorem Sim.putO {P : Program} {f : Emb} {h : AH} {w : World} (hs : Sim P f h w) {L : Nat} {o : Obj} (hL : w.heap[L]? = some o) (ho : farO o = true) (o1 : Obj) : Sim P f h (w.putObj L o1) := by
  have hn := hs.notIm hL ho
  refine ⟨fun b x hb ha => ?_, hs.sep, hs.glob, hs.size, fun r ds hr => ?_, hs.laid, hs.ok⟩
  · obtain ⟨o', k1, k2⟩ := hs.obj b x hb ha
    exact ⟨o', (World.putObj_heap_other (hn b x hb ha)).trans k1, k2⟩
  · obtain ⟨⟨el, fr, k1⟩, k2⟩ := hs.rom r ds hr
    refine ⟨⟨el, fr, (World.putObj_heap_other fun he => ?_).trans k1⟩, k2⟩
    rw [he, hL] at k1; cases k1; cases ho

/-- more blocks behind -/
theorem Sim.more {P : Program} {f : Emb} {h : AH} {w w1 : World} (hs : Sim P f h w) (hw : ∀ r, r < w.heap.size → w1.heap[r]? = w.heap[r]?) : Sim P f h w1 := by
  refine ⟨fun b x hb ha => ?_, hs.sep, hs.glob, hs.size, fun r ds hr => ?_, hs.laid, hs.ok⟩
  · obtain ⟨o', k1, k2⟩ := hs.obj b x hb ha
    exact ⟨o', (hw _ (Array.getElem?_eq_some_iff.1 k1).1).trans k1, k2⟩
  · obtain ⟨⟨el, fr, k1⟩, k2⟩ := hs.rom r ds hr
    exact ⟨⟨el, fr, (hw _ (Array.getElem?_eq_some_iff.1 k1).1).trans k1⟩, k2⟩

/-- a step that may turn the loop's record, too -/
structure StepL (L : Nat) (P : Program) (f : Emb) (h : AH) (w : World) (f1 : Emb) (h1 : AH) (w1 : World) : Prop where
  sim : Sim P f1 h1 w1
  agree : Emb.Agree h.length f f1
  len : h.length ≤ h1.length
  os : w1.os = w.os
  tape : w1.tape = w.tape
  output : w1.output = w.output
  size : w.heap.size ≤ w1.heap.size
  block : ∀ r, r < w.heap.size → r ≠ L → (∀ b o, h[b]? = some o → o.rw = true → (f b).blk ≠ r) → w1.heap[r]? = w.heap[r]?
  drawn : w.drawn ≤ w1.drawn
  own : ∀ b o, h1[b]? = some o → o.rw = true → w.heap.size ≤ (f1 b).blk ∨ ∃ b0 o0, h[b0]? = some o0 ∧ o0.rw = true ∧ (f b0).blk = (f1 b).blk

theorem Step.toL {P : Program} {f f1 : Emb} {h h1 : AH} {w w1 : World} (s : Step P f h w f1 h1 w1) (L : Nat) : StepL L P f h w f1 h1 w1 :=
  ⟨s.sim, s.agree, s.len, s.keep.os, s.keep.tape, s.keep.output, s.keep.size, fun r hr _ hn => s.keep.block r hr hn, s.keep.drawn, s.own⟩

theorem StepL.trans {L : Nat} {P : Program} {f f1 f2 : Emb} {h h1 h2 : AH} {w w1 w2 : World} (s : StepL L P f h w f1 h1 w1) (t : StepL L P f1 h1 w1 f2 h2 w2) : StepL L P f h w f2 h2 w2 := by
  refine ⟨t.sim, s.agree.trans t.agree s.len, Nat.le_trans s.len t.len, t.os.trans s.os, t.tape.trans s.tape, t.output.trans s.output, Nat.le_trans s.size t.size, fun r hr hL hno => ?_, Nat.le_trans s.drawn t.drawn, fun b o hb ho => ?_⟩
  · have h1 := s.block r hr hL hno
    have h2 := t.block r (Nat.lt_of_lt_of_le hr s.size) hL (fun b o hb ho e => by
      rcases s.own b o hb ho with hge | ⟨b0, o0, hb0, ho0, he⟩
      · omega
      · exact hno b0 o0 hb0 ho0 (he.trans e))
    exact h2.trans h1
  · rcases t.own b o hb ho with hge | ⟨b0, o0, hb0, ho0, he⟩
    · exact .inl (Nat.le_trans s.size hge)
    · rcases s.own b0 o0 hb0 ho0 with h1 | ⟨b1, o1, h2, h3, h4⟩
      · exact .inl (by omega)
      · exact .inr ⟨b1, o1, h2, h3, h4.trans he⟩

/-- what no abstract heap holds lies as it lay -/
theorem Step.far {P : Program} {f f1 : Emb} {h h1 : AH} {w w1 : World} (s : Step P f h w f1 h1 w1) (hs : Sim P f h w) {L : Nat} {o : Obj} (hL : w.heap[L]? = some o) (ho : farO o = true) : w1.heap[L]? = some o :=
  (s.keep.block L (Array.getElem?_eq_some_iff.1 hL).1 fun b x hb hx => hs.notIm hL ho b x hb (rw_alive hx)).trans hL
theorem StepL.far {l : Nat} {P : Program} {f f1 : Emb} {h h1 : AH} {w w1 : World} (s : StepL l P f h w f1 h1 w1) (hs : Sim P f h w) {L : Nat} {o : Obj} (hL : w.heap[L]? = some o) (ho : farO o = true) (hne : L ≠ l) : w1.heap[L]? = some o :=
  (s.block L (Array.getElem?_eq_some_iff.1 hL).1 hne fun b x hb hx => hs.notIm hL ho b x hb (rw_alive hx)).trans hL

/-- a loop over a function -/
structure LoopR where
  l : Nat
  fn : FuncId
  tmps : Array Value
  ps : Array Tmp
  assign : Code
  body : Code
  d : Nat
def LoopR.loop (R : LoopR) (s : LoopState) (pe : Option Code) : Loop := { state := s, pending := pe, fn := R.fn, tmps := R.tmps, params := R.ps, assign := R.assign, body := R.body, defers := R.d }
def LoopR.at (R : LoopR) (st : Option Code) : Obj := .loop (R.loop (if st.isNone then .ready else .done) st)

abbrev YRel := Array Value → AH → (Option Code → AH → Prop) → Prop

/-- what Y says of a round holds -/
def YOk (P : Program) (R : LoopR) (Y : YRel) (fb : Emb) (hb : AH) : Prop :=
  ∀ f h w args args' K, Y args h K → Sim P f h w → w.heap[R.l]? = some (R.at none) → ARel f h.length args args' → Emb.Agree hb.length fb f → hb.length ≤ h.length →
    args'.size = R.ps.size ∧ RoundIn Fence.wide 0 P R.l R.fn ((R.ps.zip args').foldl (fun t (p, v) => t.setIfInBounds p v) R.tmps) R.assign R.body w fun e w' =>
      ∃ st f1 h1, e = .returned (.bool st.isNone) ∧ K st h1 ∧ StepL R.l P f h w f1 h1 w' ∧ w'.heap[R.l]? = some (R.at st)

structure GI (P : Program) (R : LoopR) (fb : Emb) (hb : AH) (wb : World) (f : Emb) (ys : List Tmp) (a : Array Value) (h : AH) (st : Option Code) (a' : Act) (w : World) : Prop where
  step : StepL R.l P fb hb wb f h w
  tm : ARel f h.length a a'.tmps
  df : a'.defers = []
  lrec : w.heap[R.l]? = some (R.at st)
  ys : ∀ t ∈ ys, a'.tmps[t]? = some (.func (.yield R.l) #[] #[])

abbrev PostI := Exit → List Tmp → Array Value → AH → Option Code → Prop

def LiftI (P : Program) (R : LoopR) (fb : Emb) (hb : AH) (wb : World) (Q : PostI) : Exit → Act → World → Prop
  | .normal, a', w => ∃ f ys a h st, Q .normal ys a h st ∧ GI P R fb hb wb f ys a h st a' w
  | .exit id, a', w => ∃ f ys a h st, Q (.exit id) ys a h st ∧ GI P R fb hb wb f ys a h st a' w
  | .ret, a', w => ∃ f ys a h st, Q .ret ys a h st ∧ GI P R fb hb wb f ys a h st a' w
  | _, _, _ => False

/-- the iterator's code -/
def AWPI (P : Program) (Y : YRel) (hb : AH) (c : Code) (Q : PostI) (ys : List Tmp) (a : Array Value) (h : AH) (st : Option Code) : Prop :=
  ∀ R fb wb f a' w, YOk P R Y fb hb → GI P R fb hb wb f ys a h st a' w → c.wpIn Fence.wide 0 P (LiftI P R fb hb wb Q) a' w

def ydrop (ys : List Tmp) : Option Tmp → List Tmp
  | none => ys
  | some d => ys.filter fun t => !(t == d)
def ymove (ys : List Tmp) (n : Nat) : Option Tmp → List Tmp
  | none => ys
  | some d => if d < n then d :: ys else ys

/-- where yield stands in an operation: it is moved; it is called -/
inductive YAct where
  | no
  | moved
  | called (args : Array Operand)
def yact (ys : List Tmp) : Op → YAct
  | .move (.tmp t) => if ys.contains t then .moved else .no
  | .call ⟨.value (.tmp t), args, _⟩ => if ys.contains t then .called args else .no
  | _ => .no

def awlI (P : Program) (Y : YRel) (ops : Array Oper) (Q : PostI) : List Oper → List Tmp → Array Value → AH → Option Code → Prop
  | [], ys, a, h, st => Q .normal ys a h st
  | o :: rest, ys, a, h, st =>
    match gval ops a o with
    | some false => awlI P Y ops Q rest (ydrop ys o.dst) (aput a o.dst undef) h st
    | some true => match yact ys o.op with
      | .moved => awlI P Y ops Q rest (ymove ys a.size o.dst) (aput a o.dst junk) h st
      | .called args => st = none ∧ Y (args.map (aeval P a)) h fun st1 h1 => awlI P Y ops Q rest (ydrop ys o.dst) (aput a o.dst (.bool st1.isNone)) h1 st1
      | .no => match aop P (aeval P a) h o with
        | some (.val v h1) => awlI P Y ops Q rest (ydrop ys o.dst) (aput a o.dst v) h1 st
        | some (.skip h1) => awlI P Y ops Q rest (ydrop ys o.dst) (aput a o.dst undef) h1 st
        | some (.enter F args) => ∃ R, ACalls P F args h R ∧ ∀ v h1, R v h1 → awlI P Y ops Q rest (ydrop ys o.dst) (aput a o.dst v) h1 st
        | some (.any S) => ∀ v h1, S v h1 → awlI P Y ops Q rest (ydrop ys o.dst) (aput a o.dst v) h1 st
        | none => False
    | none => False

theorem operS_wp {P : Program} {f : Emb} {a : Array Value} {h : AH} {a' : Act} {w : World} (hs : Sim P f h w) (ht : ARel f h.length a a'.tmps) (o : Oper) {r : ARes} (hr : aop P (aeval P a) h o = some r)
    {K : Act → World → Prop} {Q : Exit → Act → World → Prop}
    (hk : match r with
      | .val v h1 => ∀ f1 v' w1, Step P f h w f1 h1 w1 → VRel f1 h1.length v v' → K (a'.put o.dst v') w1
      | .skip h1 => ∀ f1 w1, Step P f h w f1 h1 w1 → K (a'.put o.dst undef) w1
      | .enter F args => ∃ R, ACalls P F args h R ∧ ∀ v h1, R v h1 → ∀ f1 v' w1, Step P f h w f1 h1 w1 → VRel f1 h1.length v v' → K (a'.put o.dst v') w1
      | .any S => ∀ v h1, S v h1 → ∀ f1 v' w1, Step P f h w f1 h1 w1 → VRel f1 h1.length v v' → K (a'.put o.dst v') w1) :
    o.wpIn Fence.wide 0 P a' w K Q := by
  have hx := sound_aop hs (fun x => aeval_rel hs ht x) o hr
  refine ⟨fun _ _ => trivial, ?_⟩
  rw [show Fence.wide.round = none from rfl, semAt_R hr none]
  cases r with
  | val v h1 =>
    obtain ⟨f1, v', w1, e, st, hv⟩ := hx
    rw [e, Oper.uponIn_value]
    exact hk f1 v' w1 st hv
  | skip h1 =>
    obtain ⟨f1, w1, e, st⟩ := hx
    rw [e, Oper.uponIn_skip]
    exact hk f1 w1 st
  | enter F args =>
    obtain ⟨args', e, ha⟩ := hx
    obtain ⟨R, hc, hk⟩ := hk
    rw [e, Oper.uponIn_enter]
    refine ⟨fun h => (by cases h), CallsIn.fenceR ((hc.run f w args' hs ha).mono fun e w1 hx => ?_) none⟩
    obtain ⟨f1, v, v', h1, rfl, hR, st, hv⟩ := hx
    exact hk v h1 hR f1 v' w1 st hv
  | any S =>
    obtain ⟨f1, v, v', h1, w1, e, hS, st, hv⟩ := hx
    rw [e, Oper.uponIn_value]
    exact hk v h1 hS f1 v' w1 st hv

theorem put_ydrop {ys : List Tmp} {a' : Act} {v u : Value} (hy : ∀ t ∈ ys, a'.tmps[t]? = some u) (dst : Option Tmp) : ∀ t ∈ ydrop ys dst, (a'.put dst v).tmps[t]? = some u := by
  intro t ht
  cases dst with
  | none => exact hy t ht
  | some d =>
    simp only [ydrop, List.mem_filter, Bool.not_eq_true', beq_eq_false_iff_ne, ne_eq] at ht
    show (a'.tmps.setIfInBounds d v)[t]? = _
    rw [Array.getElem?_setIfInBounds_ne (fun e => ht.2 e.symm)]
    exact hy t ht.1
theorem GI.next {P : Program} {R : LoopR} {fb : Emb} {hb : AH} {wb : World} {f f1 : Emb} {ys : List Tmp} {a : Array Value} {h h1 : AH} {st : Option Code} {a' : Act} {w w1 : World} (g : GI P R fb hb wb f ys a h st a' w) (s : Step P f h w f1 h1 w1) (dst : Option Tmp) {v v' : Value} (hv : VRel f1 h1.length v v') :
    GI P R fb hb wb f1 (ydrop ys dst) (aput a dst v) h1 st (a'.put dst v') w1 :=
  ⟨g.step.trans (s.toL _), (g.tm.step s).aput dst hv, (put_defers _ _ _).trans g.df, s.far g.step.sim g.lrec rfl, put_ydrop g.ys dst⟩

theorem eval_tmp {a' : Act} {t : Tmp} {v : Value} (h : a'.tmps[t]? = some v) : a'.eval (.tmp t) = v := by
  show a'.tmps.getD t undef = v
  rw [Array.getD_eq_getD_getElem?, h]; rfl

theorem awlI_sound {P : Program} {Y : YRel} {ops : Array Oper} {Q : PostI} {R : LoopR} {fb : Emb} {hb : AH} {wb : World} (hY : YOk P R Y fb hb) (l : List Oper) : ∀ {f : Emb} {ys : List Tmp} {a : Array Value} {h : AH} {st : Option Code} {a' : Act} {w : World},
    awlI P Y ops Q l ys a h st → GI P R fb hb wb f ys a h st a' w → wpListIn Fence.wide 0 P ops (LiftI P R fb hb wb Q) l a' w := by
  induction l with
  | nil => intro f ys a h st a' w ha g; exact ⟨f, ys, a, h, st, ha, g⟩
  | cons o rest ih =>
    intro f ys a h st a' w ha g
    unfold awlI at ha
    split at ha
    · rename_i hg
      have hw := gval_wanted g.tm hg
      unfold wpListIn
      rw [if_neg (by simp [hw])]
      exact ⟨fun _ _ => trivial, ih ha (g.next (Step.refl g.step.sim) o.dst undef_rel)⟩
    · rename_i hg
      have hw := gval_wanted g.tm hg
      unfold wpListIn
      rw [if_pos hw]
      split at ha
      · rename_i hy
        -- yield is moved
        unfold yact at hy
        split at hy
        · rename_i t hop
          split at hy
          · rename_i ht
            have ht' : t ∈ ys := by simpa using ht
            refine ⟨fun _ _ => trivial, ?_⟩
            have e : (o.semAt Fence.wide.round a'.eval).run P w = .ok (.value (.func (.yield R.l) #[] #[])) w := by
              show (execOp a'.eval o).run P w = _
              unfold execOp
              rw [hop]
              simp only [eval_tmp (g.ys t ht')]
              rfl
            rw [e, Oper.uponIn_value]
            have g1 := g.next (Step.refl g.step.sim) o.dst (v := junk) (v' := .func (.yield R.l) #[] #[]) (.junk _)
            refine ih ha (GI.mk g1.step g1.tm g1.df g1.lrec fun t1 h1 => ?_)
            have hsz : a.size = a'.tmps.size := g.tm.1
            cases hd : o.dst with
            | none => rw [hd] at h1; exact g.ys t1 h1
            | some d =>
              rw [hd] at h1
              show (a'.tmps.setIfInBounds d _)[t1]? = _
              simp only [ymove, hsz] at h1
              by_cases hlt : d < a'.tmps.size
              · rw [if_pos hlt] at h1
                by_cases hdt : d = t1
                · subst hdt
                  rw [Array.getElem?_setIfInBounds_self_of_lt hlt]
                · rw [Array.getElem?_setIfInBounds_ne hdt]
                  simp only [List.mem_cons] at h1
                  rcases h1 with h1 | h1
                  · exact absurd h1.symm hdt
                  · exact g.ys t1 h1
              · rw [if_neg hlt] at h1
                have h2 := g.ys t1 h1
                have h3 := (Array.getElem?_eq_some_iff.1 h2).1
                have hne : d ≠ t1 := fun e => hlt (e ▸ h3)
                rw [Array.getElem?_setIfInBounds_ne hne]
                exact h2
          · cases hy
        · split at hy <;> cases hy
        · cases hy
      · rename_i args hy
        unfold yact at hy
        split at hy
        · split at hy <;> cases hy
        · rename_i t args' ts hop
          split at hy
          · rename_i ht
            cases hy
            have ht' : t ∈ ys := by simpa using ht
            obtain ⟨rfl, hyy⟩ := ha
            have hargs := arel_map (fun x => aeval_rel g.step.sim g.tm x) args
            obtain ⟨h1, h2⟩ := hY f h w _ _ _ hyy g.step.sim g.lrec hargs g.step.agree g.step.len
            refine ⟨fun _ _ => trivial, ?_⟩
            have e : (o.semAt Fence.wide.round a'.eval).run P w = .ok (.round R.l R.fn ((R.ps.zip (args.map a'.eval)).foldl (fun t (p, v) => t.setIfInBounds p v) R.tmps) R.assign R.body) w := by
              show (execOp a'.eval o).run P w = _
              unfold execOp
              rw [hop]
              simp only [resolve, eval_tmp (g.ys t ht'), Deferred.ofValue, Sem.run_bind, Sem.run_pure, Result.andThen_ok, invoke]
              rw [Array.empty_append]
              exact run_yield (P := P) (l := R.l) (r := R.loop .ready none) (args := args.map a'.eval) g.lrec h1
            rw [e, Oper.uponIn_round]
            refine ⟨fun h => (by cases h), h2.mono fun e w1 hx => ?_⟩
            obtain ⟨st1, f1, h3, rfl, hK, s, hr⟩ := hx
            exact ih hK ⟨g.step.trans s, (g.tm.mono s.len s.agree).aput o.dst (.bool _), (put_defers _ _ _).trans g.df, hr, put_ydrop g.ys o.dst⟩
          · cases hy
        · cases hy
      · rename_i hy
        split at ha
        · rename_i v h1 hr
          exact operS_wp g.step.sim g.tm o hr fun f1 v' w1 s hv => ih ha (g.next s o.dst hv)
        · rename_i h1 hr
          exact operS_wp g.step.sim g.tm o hr fun f1 w1 s => ih ha (g.next s o.dst undef_rel)
        · rename_i F args hr
          obtain ⟨R', hc, hk⟩ := ha
          exact operS_wp g.step.sim g.tm o hr ⟨R', hc, fun v h1 hR f1 v' w1 s hv => ih (hk v h1 hR) (g.next s o.dst hv)⟩
        · rename_i S hr
          exact operS_wp g.step.sim g.tm o hr fun v h1 hS f1 v' w1 s hv => ih (ha v h1 hS) (g.next s o.dst hv)
        · exact ha.elim
    · exact ha.elim
theorem AWPI.region {P : Program} {Y : YRel} {hb : AH} {id : Nat} {ops : Array Oper} {Q : PostI} {ys : List Tmp} {a : Array Value} {h : AH} {st : Option Code} (ha : awlI P Y ops Q ops.toList ys a h st) : AWPI P Y hb (.region id ops false) Q ys a h st :=
  fun R fb wb f a' w hY g => wpIn_region_list (awlI_sound hY ops.toList ha g)

def thenI (next : List Tmp → Array Value → AH → Option Code → Prop) (Q : PostI) : PostI
  | .normal, ys, a, h, st => next ys a h st
  | e, ys, a, h, st => Q e ys a h st
def inBlockI (id : Nat) (Q : PostI) : PostI
  | .exit id', ys, a, h, st => if id' = id then Q .normal ys a h st else Q (.exit id') ys a h st
  | e, ys, a, h, st => Q e ys a h st

theorem AWPI.seq {P : Program} {Y : YRel} {hb : AH} {x y : Code} {Q : PostI} {ys : List Tmp} {a : Array Value} {h : AH} {st : Option Code} (ha : AWPI P Y hb x (thenI (AWPI P Y hb y Q) Q) ys a h st) : AWPI P Y hb (.seq x y) Q ys a h st := by
  intro R fb wb f a' w hY g
  refine wpIn_seq (Go.wpIn_mono (ha R fb wb f a' w hY g) fun e a1 w1 hq => ?_)
  cases e with
  | normal => obtain ⟨f1, ys1, b, h1, st1, hk, g1⟩ := hq; exact hk R fb wb f1 a1 w1 hY g1
  | exit id => exact hq
  | goto l => exact hq
  | ret => exact hq
  | panic c => exact hq
  | outgrown => exact hq

theorem AWPI.block {P : Program} {Y : YRel} {hb : AH} {id : Nat} {c : Code} {Q : PostI} {ys : List Tmp} {a : Array Value} {h : AH} {st : Option Code} (ha : AWPI P Y hb c (inBlockI id Q) ys a h st) : AWPI P Y hb (.block id c) Q ys a h st := by
  intro R fb wb f a' w hY g
  refine wpIn_block (Go.wpIn_mono (ha R fb wb f a' w hY g) fun e a1 w1 hq => ?_)
  cases e with
  | normal => exact hq
  | exit id' =>
    obtain ⟨f1, ys1, b, h1, st1, hk, g1⟩ := hq
    simp only [inBlockI] at hk
    show if id' = id then _ else _
    split
    · rename_i he; rw [if_pos he] at hk; exact ⟨f1, ys1, b, h1, st1, hk, g1⟩
    · rename_i he; rw [if_neg he] at hk; exact ⟨f1, ys1, b, h1, st1, hk, g1⟩
  | goto l => exact hq
  | ret => exact hq
  | panic c => exact hq
  | outgrown => exact hq

theorem AWPI.mono {P : Program} {Y : YRel} {hb : AH} {c : Code} {Q Q' : PostI} {ys : List Tmp} {a : Array Value} {h : AH} {st : Option Code} (ha : AWPI P Y hb c Q ys a h st) (hq : ∀ e ys a h st, Q e ys a h st → Q' e ys a h st) : AWPI P Y hb c Q' ys a h st := by
  intro R fb wb f a' w hY g
  refine Go.wpIn_mono (ha R fb wb f a' w hY g) fun e a1 w1 hx => ?_
  cases e with
  | normal => obtain ⟨f1, ys1, b, h1, st1, hk, g1⟩ := hx; exact ⟨f1, ys1, b, h1, st1, hq _ _ _ _ _ hk, g1⟩
  | exit id => obtain ⟨f1, ys1, b, h1, st1, hk, g1⟩ := hx; exact ⟨f1, ys1, b, h1, st1, hq _ _ _ _ _ hk, g1⟩
  | ret => obtain ⟨f1, ys1, b, h1, st1, hk, g1⟩ := hx; exact ⟨f1, ys1, b, h1, st1, hq _ _ _ _ _ hk, g1⟩
  | goto l => exact hx
  | panic c => exact hx
  | outgrown => exact hx

/-- a frame of which less is known -/
theorem AWPI.less {P : Program} {Y : YRel} {hb : AH} {c : Code} {Q : PostI} {ys ys1 : List Tmp} {a a1 : Array Value} {h : AH} {st : Option Code} (hy : ∀ t ∈ ys1, t ∈ ys) (hsz : a1.size = a.size) (hv : ∀ i : Nat, a1.getD i junk = a.getD i junk ∨ a1.getD i junk = junk) (ha : AWPI P Y hb c Q ys1 a1 h st) : AWPI P Y hb c Q ys a h st := by
  intro R fb wb f a' w hY g
  exact ha R fb wb f a' w hY ⟨g.step, ⟨hsz.trans g.tm.1, fun i => by
    rcases hv i with e | e
    · rw [e]; exact g.tm.2 i
    · rw [e]; exact .junk _⟩, g.df, g.lrec, fun t ht => g.ys t (hy t ht)⟩

theorem AWPI.loop {P : Program} {Y : YRel} {hb : AH} {c : Code} {Q : PostI} {ys : List Tmp} {a : Array Value} {h : AH} {st : Option Code} (I : Nat → List Tmp → Array Value → AH → Option Code → Prop) {n : Nat} (hI : I n ys a h st)
    (round : ∀ n ys a h st, I n ys a h st → AWPI P Y hb c (thenI (fun ys1 a1 h1 st1 => ∃ m, m < n ∧ I m ys1 a1 h1 st1) Q) ys a h st) : AWPI P Y hb (.loop c) Q ys a h st := by
  intro R fb wb f a' w hY g
  refine wpIn_loop_ghost (fun n a' w => ∃ f ys a h st, I n ys a h st ∧ GI P R fb hb wb f ys a h st a' w) (fun n a' w hx => ?_) (n := n) ⟨f, ys, a, h, st, hI, g⟩
  obtain ⟨f1, ys1, b, h1, st1, hi, g1⟩ := hx
  refine Go.wpIn_mono (round n ys1 b h1 st1 hi R fb wb f1 a' w hY g1) fun e a1 w1 hq => ?_
  cases e with
  | normal =>
    obtain ⟨f2, ys2, b2, h2, st2, ⟨m, hm, hi2⟩, g2⟩ := hq
    exact ⟨m, hm, f2, ys2, b2, h2, st2, hi2, g2⟩
  | exit id => exact hq
  | goto l => exact hq
  | ret => exact hq
  | panic c => exact hq
  | outgrown => exact hq

/-- the iterator's code, taken apart -/
def ayI (P : Program) (Y : YRel) (hb : AH) : Code → PostI → List Tmp → Array Value → AH → Option Code → Prop
  | .skip, Q, ys, a, h, st => Q .normal ys a h st
  | .region _ ops false, Q, ys, a, h, st => awlI P Y ops Q ops.toList ys a h st
  | .seq x y, Q, ys, a, h, st => ayI P Y hb x (thenI (ayI P Y hb y Q) Q) ys a h st
  | .cond c x y, Q, ys, a, h, st => ∃ t, aeval P a c = .bool t ∧ (t = true → ayI P Y hb x Q ys a h st) ∧ (t = false → ayI P Y hb y Q ys a h st)
  | .block id c, Q, ys, a, h, st => ayI P Y hb c (inBlockI id Q) ys a h st
  | .exit id, Q, ys, a, h, st => Q (.exit id) ys a h st
  | .ret, Q, ys, a, h, st => Q .ret ys a h st
  | c, Q, ys, a, h, st => AWPI P Y hb c Q ys a h st

theorem thenI_mono {next next' : List Tmp → Array Value → AH → Option Code → Prop} {Q : PostI} (hn : ∀ ys a h st, next ys a h st → next' ys a h st) : ∀ e ys a h st, thenI next Q e ys a h st → thenI next' Q e ys a h st := by
  intro e ys a h st hq; cases e <;> first | exact hn _ _ _ _ hq | exact hq

theorem ayI_sound {P : Program} {Y : YRel} {hb : AH} (c : Code) : ∀ (Q : PostI) (ys : List Tmp) (a : Array Value) (h : AH) (st : Option Code), ayI P Y hb c Q ys a h st → AWPI P Y hb c Q ys a h st := by
  induction c with
  | skip => intro Q ys a h st ha R fb wb f a' w hY g; exact Go.wpIn_skip ⟨f, ys, a, h, st, ha, g⟩
  | region id ops draw =>
    intro Q ys a h st ha
    cases draw with
    | false => exact AWPI.region ha
    | true => exact ha
  | seq x y ihx ihy => intro Q ys a h st ha; exact AWPI.seq (AWPI.mono (ihx _ ys a h st ha) (thenI_mono fun ys a h st hx => ihy Q ys a h st hx))
  | cond c x y ihx ihy =>
    intro Q ys a h st ha R fb wb f a' w hY g
    obtain ⟨t, ht, h1, h2⟩ := ha
    have hc := aeval_rel g.step.sim g.tm c
    rw [ht] at hc
    refine wpIn_cond_split hc.bool_inv (fun e => ?_) (fun e => ?_)
    · exact ihx Q ys a h st (h1 e) R fb wb f a' w hY g
    · exact ihy Q ys a h st (h2 e) R fb wb f a' w hY g
  | block id c ih => intro Q ys a h st ha; exact AWPI.block (ih _ ys a h st ha)
  | loop c ih => intro Q ys a h st ha; exact ha
  | rangeFunc f ps asg c ih1 ih2 => intro Q ys a h st ha; exact ha
  | exit id => intro Q ys a h st ha R fb wb f a' w hY g; exact Go.wpIn_exit ⟨f, ys, a, h, st, ha, g⟩
  | scope c ih => intro Q ys a h st ha; exact ha
  | label l => intro Q ys a h st ha; exact ha
  | goto l => intro Q ys a h st ha; exact ha
  | ret => intro Q ys a h st ha R fb wb f a' w hY g; exact Go.wpIn_ret ⟨f, ys, a, h, st, ha, g⟩
  | refuse why => intro Q ys a h st ha; exact ha

/-- an iterator's contract -/
structure AIter (P : Program) (K : FuncId) (caps : Array Value) (h : AH) (Y : YRel) (Z : AH → Option Code → Prop) : Prop where
  run : ∀ (R : LoopR) (f : Emb) (w : World) (caps' : Array Value), YOk P R Y f h → Sim P f h w → w.heap[R.l]? = some (R.at none) → ARel f h.length caps caps' →
    CallsIn Fence.wide 0 P K (#[.func (.yield R.l) #[] #[]] ++ caps') w fun e w' => ∃ v f1 h1 st, e = .returned v ∧ Z h1 st ∧ StepL R.l P f h w f1 h1 w' ∧ w'.heap[R.l]? = some (R.at st)

def postI (Z : AH → Option Code → Prop) : PostI
  | .normal, _, _, h, st | .ret, _, _, h, st => Z h st
  | _, _, _, _, _ => False

theorem AIter.of_ayI {P : Program} {K : FuncId} {fn : Func} {c : Code} (hf : P.funcs[K]? = some fn) (hb : fn.body = some c) (hr : fn.results = #[]) {n : Nat} (hn : fn.ntmps = n) {caps : List Value} {h : AH} {Y : YRel} {Z : AH → Option Code → Prop}
    (hlt : 0 < n) (ha : ayI P Y h c (postI Z) [0] (junk :: caps ++ List.replicate (n - (caps.length + 1)) undef).toArray h none) : AIter P K caps.toArray h Y Z := by
  refine ⟨fun R f w caps' hY hs hl hc => ?_⟩
  have e0 : (junk :: caps ++ List.replicate (n - (caps.length + 1)) undef).toArray = #[junk] ++ caps.toArray ++ Array.replicate (n - (caps.length + 1)) undef := by simp
  have hcs : caps.length = caps'.size := by simpa using hc.1
  have g : GI P R f h w f [0] (junk :: caps ++ List.replicate (n - (caps.length + 1)) undef).toArray h none { tmps := (#[Value.func (.yield R.l) #[] #[]] ++ caps') ++ Array.replicate (fn.ntmps - (#[Value.func (.yield R.l) #[] #[]] ++ caps').size) undef, defers := [] } w := by
    refine ⟨(Step.refl hs).toL _, ?_, rfl, hl, fun t ht => ?_⟩
    · rw [e0]
      have e1 : fn.ntmps - (#[Value.func (.yield R.l) #[] #[]] ++ caps').size = n - (caps.length + 1) := by rw [hn, Array.size_append, ← hcs]; simp; omega
      rw [e1]
      refine arel_append (arel_append ⟨rfl, fun i => ?_⟩ hc) ⟨rfl, fun i => ?_⟩
      · cases i with
        | zero => exact .junk _
        | succ i => simp [Array.getD]; exact .junk _
      · by_cases hi : i < n - (caps.length + 1)
        · have : (Array.replicate (n - (caps.length + 1)) undef).getD i junk = undef := by simp [Array.getD, hi]
          rw [this]; exact undef_rel
        · rw [getD_ge i (by simpa using hi)]; exact .junk _
    · simp only [List.mem_singleton] at ht
      subst ht
      rw [Array.getElem?_append_left (by simp; omega), Array.getElem?_append_left (by simp)]
      rfl
  refine callsIn_of_wp hf hb trivial (Go.wpIn_mono (ayI_sound c _ _ _ _ _ ha R f w f _ w hY g) fun e a1 w1 hq => ?_)
  have fin : ∀ f1 ys b h1 st, Z h1 st → GI P R f h w f1 ys b h1 st a1 w1 → a1.defers = [] ∧ ∃ v, (results fn a1.tmps).run P w1 = .ok v w1 ∧ ∃ v' f1 h1 st, Ending.returned v = .returned v' ∧ Z h1 st ∧ StepL R.l P f h w f1 h1 w1 ∧ w1.heap[R.l]? = some (R.at st) := by
    intro f1 ys b h1 st hz g1
    have hv : aresults P fn b h1 = some undef := by
      unfold aresults
      rw [hr]; rfl
    obtain ⟨v', k1, _⟩ := run_results g1.step.sim g1.tm hv
    exact ⟨g1.df, v', k1, _, f1, h1, st, rfl, hz, g1.step, g1.lrec⟩
  cases e with
  | normal => obtain ⟨f1, ys, b, h1, st, hk, g1⟩ := hq; exact fin f1 ys b h1 st hk g1
  | ret => obtain ⟨f1, ys, b, h1, st, hk, g1⟩ := hq; exact fin f1 ys b h1 st hk g1
  | exit id => obtain ⟨f1, ys, b, h1, st, hk, g1⟩ := hq; exact hk.elim
  | goto l => exact hq.elim
  | panic c => exact hq.elim
  | outgrown => exact hq.elim

/-! ### the loop -/
def roundQ (P : Program) (h : AH) (K : Option Code → AH → Prop) : Exit → Array Value → AH → Prop
  | .normal, _, h2 => ∃ h3, Eases P h #[] h2 #[] h3 ∧ K none h3
  | .ret, _, h2 => ∃ h3, Eases P h #[] h2 #[] h3 ∧ K (some .ret) h3
  | .exit id, _, h2 => ∃ h3, Eases P h #[] h2 #[] h3 ∧ K (some (.exit id)) h3
  | _, _, _ => False
/-- a round, on the frame that the loop began with -/
def roundY (P : Program) (a : Array Value) (ps : Array Tmp) (assign body : Code) : YRel := fun args h K =>
  args.size = ps.size ∧ AWP P h assign (thenA (AWP P h body (roundQ P h K)) fun _ _ _ => False) ((ps.zip args).foldl (fun t (p, v) => t.setIfInBounds p v) a) h

theorem arel_fold {f : Emb} {L : Nat} : ∀ (ps : List Tmp) (xs ys : List Value) {a b : Array Value}, ARel f L a b → xs.length = ys.length → (∀ i : Nat, VRel f L (xs.getD i junk) (ys.getD i junk)) →
    ARel f L ((ps.zip xs).foldl (fun t (p, v) => t.setIfInBounds p v) a) ((ps.zip ys).foldl (fun t (p, v) => t.setIfInBounds p v) b)
  | [], _, _, _, _, h, _, _ => by simpa using h
  | _ :: _, [], [], _, _, h, _, _ => by simpa using h
  | p :: ps, x :: xs, y :: ys, a, b, h, hl, hv => by
    simp only [List.zip_cons_cons, List.foldl_cons]
    exact arel_fold ps xs ys (h.set p (by simpa using hv 0)) (by simpa using hl) fun i => by simpa using hv (i + 1)
  | _ :: _, [], _ :: _, _, _, _, hl, _ => by simp at hl
  | _ :: _, _ :: _, [], _, _, _, hl, _ => by simp at hl

theorem roundY_ok {P : Program} {R : LoopR} {fb : Emb} {hb : AH} {a : Array Value} (ht : ARel fb hb.length a R.tmps) : YOk P R (roundY P a R.ps R.assign R.body) fb hb := by
  intro f h w args args' K hY hs hl hargs hag hlen
  obtain ⟨hsz, hA⟩ := hY
  refine ⟨hargs.1.symm.trans hsz, ?_⟩
  have hL : R.l < w.heap.size := (Array.getElem?_eq_some_iff.1 hl).1
  have hfold : ∀ (t : Array Value) (vs : Array Value), (R.ps.zip vs).foldl (fun t (p, v) => t.setIfInBounds p v) t = (R.ps.toList.zip vs.toList).foldl (fun t (p, v) => t.setIfInBounds p v) t := fun t vs => by
    rw [← Array.foldl_toList, Array.toList_zip]
  have htm : ARel f h.length ((R.ps.zip args).foldl (fun t (p, v) => t.setIfInBounds p v) a) ((R.ps.zip args').foldl (fun t (p, v) => t.setIfInBounds p v) R.tmps) := by
    rw [hfold, hfold]
    refine arel_fold _ _ _ (ht.mono hlen hag) (by simpa using hargs.1) fun i => ?_
    have := hargs.2 i
    simpa [Array.getD_eq_getD_getElem?, List.getD] using this
  have hni : ∀ b o, h[b]? = some o → o.rw = true → (f b).blk ≠ R.l := fun b o hb ho => hs.notIm hl rfl b o hb (rw_alive ho)
  have g : Good P f h w f ((R.ps.zip args).foldl (fun t (p, v) => t.setIfInBounds p v) a) h { tmps := (R.ps.zip args').foldl (fun t (p, v) => t.setIfInBounds p v) R.tmps, defers := [] } w :=
    ⟨hs, htm, .nil, Keep.refl _ _ _, fun b o hb ho => .inr ⟨b, o, hb, ho, rfl⟩, .refl _ _, Nat.le_refl _⟩
  refine roundIn_of_wpIn trivial (Go.wpIn_mono (hA f w f _ w hs g (some R.l) ⟨⟨_, hl⟩, hni⟩) fun e a1 w1 hq => ?_)
  cases e with
  | exit id => obtain ⟨_, _, _, hk, _⟩ := hq; exact hk.elim
  | goto l => obtain ⟨_, _, _, hk, _⟩ := hq; exact hk.elim
  | ret => obtain ⟨_, _, _, hk, _⟩ := hq; exact hk.elim
  | panic c => exact hq.elim
  | outgrown => exact hq.elim
  | normal =>
    obtain ⟨f1, b1, h1, hB, g1⟩ := hq
    have hl1 : w1.heap[R.l]? = some (R.at none) := (g1.keep.block R.l hL hni).trans hl
    refine ⟨w1.putObj R.l (.loop (R.loop .busy none)), run_beginRound hl1 rfl, ?_⟩
    generalize hwB : w.putObj R.l (.loop (R.loop .busy none)) = wB
    generalize hw2 : w1.putObj R.l (.loop (R.loop .busy none)) = w2
    have hsB : Sim P f h wB := hwB ▸ hs.putO hl rfl _
    have hs2 : Sim P f1 h1 w2 := hw2 ▸ g1.sim.putO hl1 rfl _
    have szB : wB.heap.size = w.heap.size := by rw [← hwB]; simp
    have sz2 : w2.heap.size = w1.heap.size := by rw [← hw2]; simp
    have hL1 : R.l < w1.heap.size := Nat.lt_of_lt_of_le hL g1.keep.size
    have hlB : wB.heap[R.l]? = some (.loop (R.loop .busy none)) := by rw [← hwB]; exact World.putObj_heap_same hL
    have hl2 : w2.heap[R.l]? = some (.loop (R.loop .busy none)) := by rw [← hw2]; exact World.putObj_heap_same hL1
    have otB : ∀ {k : Nat}, k ≠ R.l → wB.heap[k]? = w.heap[k]? := fun hk => by rw [← hwB]; exact World.putObj_heap_other hk
    have ot2 : ∀ {k : Nat}, k ≠ R.l → w2.heap[k]? = w1.heap[k]? := fun hk => by rw [← hw2]; exact World.putObj_heap_other hk
    have g2 : Good P f h wB f1 b1 h1 a1 w2 := by
      refine ⟨hs2, g1.tm, ⟨fun d hd => ?_, g1.df.apart⟩, ⟨?_, ?_, ?_, by rw [szB, sz2]; exact g1.keep.size, fun r hr hno => ?_, ?_⟩, fun b o hb ho => by rw [szB]; exact g1.own b o hb ho, g1.agree, g1.len⟩
      · obtain ⟨D, k1, k2, k3, k4⟩ := g1.df.each d hd
        exact ⟨D, k1, by rw [szB]; exact k2, (ot2 (by omega)).trans k3, k4⟩
      · rw [← hw2, ← hwB]; exact g1.keep.os
      · rw [← hw2, ← hwB]; exact g1.keep.tape
      · rw [← hw2, ← hwB]; exact g1.keep.output
      · by_cases he : r = R.l
        · subst he; rw [hl2, hlB]
        · rw [ot2 he, otB he]; exact g1.keep.block r (by omega) hno
      · rw [← hw2, ← hwB]; exact g1.keep.drawn
    refine Go.wpIn_mono (hB f wB f1 a1 w2 hsB g2 (some R.l) ⟨⟨_, hlB⟩, hni⟩) fun e a2 w3 hq => ?_
    have fin : ∀ (jump : Option Code) (f2 : Emb) (b2 : Array Value) (h2 : AH), (∃ h3, Eases P h #[] h2 #[] h3 ∧ K jump h3) → Good P f h wB f2 b2 h2 a2 w3 →
        ∃ v w', (Instr.endRound R.l jump).run P w3 = .ok v w' ∧ ∃ st f1 h1, Ending.returned v = .returned (.bool st.isNone) ∧ K st h1 ∧ StepL R.l P f h w f1 h1 w' ∧ w'.heap[R.l]? = some (R.at st) := by
      intro jump f2 b2 h2 hx g3
      obtain ⟨h3, hE, hK⟩ := hx
      have g3' : Good P f h wB f2 #[] h2 { tmps := #[], defers := a2.defers } w3 := ⟨g3.sim, ⟨rfl, fun i => by simp; exact .junk _⟩, g3.df, g3.keep, g3.own, g3.agree, g3.len⟩
      obtain ⟨f3, g4⟩ := hE f wB f2 _ w3 hsB g3'
      have hl3 : w3.heap[R.l]? = some (.loop (R.loop .busy none)) := (g4.keep.block R.l (by rw [szB]; exact hL) hni).trans hlB
      have hr := run_endRound (P := P) jump hl3
      have hL3 : R.l < w3.heap.size := (Array.getElem?_eq_some_iff.1 hl3).1
      have hk := g4.keep.size
      refine ⟨_, _, hr, jump, f3, h3, rfl, hK, ⟨g4.sim.putO hl3 rfl _, g4.agree, g4.len, ?_, ?_, ?_, ?_, fun r hr hne hno => ?_, ?_, fun b o hb ho => ?_⟩, World.putObj_heap_same hL3⟩
      · have := g4.keep.os; rw [← hwB] at this; exact this
      · have := g4.keep.tape; rw [← hwB] at this; exact this
      · have := g4.keep.output; rw [← hwB] at this; exact this
      · rw [szB] at hk; simpa using hk
      · rw [World.putObj_heap_other hne, g4.keep.block r (by omega) hno, otB hne]
      · have := g4.keep.drawn; rw [← hwB] at this; exact this
      · have := g4.own b o hb ho; rw [szB] at this; exact this
    cases e with
    | normal => obtain ⟨f2, b2, h2, hk, g3⟩ := hq; exact fin none f2 b2 h2 hk g3
    | ret => obtain ⟨f2, b2, h2, hk, g3⟩ := hq; exact fin (some .ret) f2 b2 h2 hk g3
    | exit id => obtain ⟨f2, b2, h2, hk, g3⟩ := hq; exact fin (some (.exit id)) f2 b2 h2 hk g3
    | goto l => obtain ⟨_, _, _, hk, _⟩ := hq; exact hk.elim
    | panic c => exact hq.elim
    | outgrown => exact hq.elim
end Go.Am
set_option linter.unusedVariables false
set_option linter.unusedSimpArgs false
/- The loop over a function. -/
namespace Go.Am
open Go

/-- entering: the record, and, where it is the outermost one, the block for what is deferred -/
theorem enter_loop {P : Program} {f0 f : Emb} {h0 h : AH} {w0 w : World} {a : Array Value} {a' : Act} (g : Good P f0 h0 w0 f a h a' w) (fn : FuncId) (ps : Array Tmp) (assign body : Code) (ro : Option Nat) (hrb : RoundBase f0 h0 w0 ro) :
    ∃ (R : LoopR) (mark : List Deferred) (w1 : World), R.tmps = a'.tmps ∧ R.ps = ps ∧ R.assign = assign ∧ R.body = body ∧ (Instr.enterLoop fn a'.tmps ps assign body ro).run P w = .ok (R.l, mark) w1 ∧ w1.heap[R.l]? = some (R.at none) ∧ w.heap.size ≤ R.l ∧
      (∀ r, r < w.heap.size → w1.heap[r]? = w.heap[r]?) ∧ w1.os = w.os ∧ w1.tape = w.tape ∧ w1.output = w.output ∧ w1.drawn = w.drawn ∧ w.heap.size ≤ w1.heap.size ∧
      (∀ d ∈ mark, ∃ D, d = { target := .collected D, args := #[] } ∧ w.heap.size ≤ D ∧ D ≠ R.l ∧ w1.heap[D]? = some (.deferred (some []))) ∧ mark.Nodup := by
  cases ro with
  | none =>
    refine ⟨⟨w.heap.size + 1, fn, a'.tmps, ps, assign, body, w.heap.size⟩, _, _, rfl, rfl, rfl, rfl, run_enterLoop_outer _ _ _ _ _, ?_, Nat.le_succ _, fun r hr => ?_, rfl, rfl, rfl, rfl, by simp; omega, fun d hd => ?_, by simp⟩
    · have := World.alloc_heap_new (w.alloc (.deferred (some []))) (.loop ((⟨w.heap.size + 1, fn, a'.tmps, ps, assign, body, w.heap.size⟩ : LoopR).loop .ready none))
      rwa [World.size_alloc] at this
    · exact (RowKit.Below.heap_alloc _ _ _ (by simp; omega)).trans (RowKit.Below.heap_alloc _ _ _ hr)
    · simp only [List.mem_singleton] at hd
      exact ⟨w.heap.size, hd, Nat.le_refl _, by simp, (RowKit.Below.heap_alloc _ _ _ (by simp)).trans (World.alloc_heap_new w _)⟩
  | some l0 =>
    obtain ⟨⟨r0, hl0⟩, hni⟩ := hrb
    have hl1 : w.heap[l0]? = some (.loop r0) := (g.keep.block l0 (Array.getElem?_eq_some_iff.1 hl0).1 hni).trans hl0
    refine ⟨⟨w.heap.size, fn, a'.tmps, ps, assign, body, r0.defers⟩, _, _, rfl, rfl, rfl, rfl, run_enterLoop_inner hl1 _ _ _ _ _, ?_, Nat.le_refl _, fun r hr => ?_, rfl, rfl, rfl, rfl, by simp, fun d hd => by simp at hd, by simp⟩
    · exact World.alloc_heap_new w (.loop ((⟨w.heap.size, fn, a'.tmps, ps, assign, body, r0.defers⟩ : LoopR).loop .ready none))
    · exact RowKit.Below.heap_alloc _ _ _ hr

theorem AWP.rangeFunc {P : Program} {h0 : AH} {g : Operand} {ps : Array Tmp} {assign body : Code} {Q : Exit → Array Value → AH → Prop} {a : Array Value} {h : AH} {K : FuncId} {caps : Array Value} {Z : AH → Option Code → Prop}
    (hg : aeval P a g = .func (.func K) #[] caps) (hK : hasBody P K = true) (hit : AIter P K caps h (roundY P a ps assign body) Z)
    (hq : ∀ h1 st, Z h1 st → match st with
      | none => Q .normal a h1
      | some c => AWP P h0 c Q a h1) : AWP P h0 (.rangeFunc g ps assign body) Q a h := by
  intro f0 w0 f a' w s0 gd ro hrb
  refine wpIn_rangeFunc fun fn _ => ?_
  obtain ⟨R, mark, w1, e1, e2, e3, e4, hent, hl, hwl, hold, hos, htape, hout, hdr, hsz, hmark, hnd⟩ := enter_loop gd fn ps assign body ro hrb
  have hgv := aeval_rel gd.sim gd.tm g
  rw [hg] at hgv
  generalize hge : a'.eval g = gv at hgv
  cases hgv with
  | func _ _ ys _ ds hfn hx hxy hc hcd =>
    have hys : ys = #[] := Array.eq_empty_of_size_eq_zero (by simpa using hx.symm)
    subst hys
    have hs1 : Sim P f h w1 := gd.sim.more hold
    have hY : YOk P R (roundY P a ps assign body) f h := by
      have := roundY_ok (P := P) (R := R) (fb := f) (hb := h) (a := a) (e1 ▸ gd.tm)
      rwa [e2, e3, e4] at this
    refine ⟨R.l, mark, w1, { target := .fn (.func K) ds, args := #[.func (.yield R.l) #[] #[]] }, w1, K, #[.func (.yield R.l) #[] #[]] ++ ds, w1, hent, ?_, fun _ _ => trivial, ?_, fun h => (by cases h), ?_⟩
    · simp only [resolve, hge, Deferred.ofValue, Sem.run_pure, List.map_toArray, List.map_cons, List.map_nil, Array.empty_append]
      rfl
    · simp only [invoke, run_callFunc hK]
    · have hcall := hit.run R f w1 ds hY hs1 hl ⟨hc, hcd⟩
      have hcall' : CallsIn (fenceR ro) (0 - 1) P K (#[.func (.yield R.l) #[] #[]] ++ ds) w1 fun e w' => ∃ v f1 h1 st, e = .returned v ∧ Z h1 st ∧ StepL R.l P f h w1 f1 h1 w' ∧ w'.heap[R.l]? = some (R.at st) := by
        cases ro with
        | none => exact hcall
        | some l => exact CallsIn.inRound l hcall
      refine hcall'.mono fun e w3 hx => ?_
      obtain ⟨v, f1, h1, st, rfl, hZ, sl, hl3⟩ := hx
      have hne : (R.loop (if st.isNone = true then LoopState.ready else .done) st).state ≠ .busy := by
        show (if st.isNone = true then LoopState.ready else .done) ≠ .busy
        split <;> simp
      have hend := run_endLoop (P := P) hl3 hne
      have hL3 : R.l < w3.heap.size := (Array.getElem?_eq_some_iff.1 hl3).1
      generalize hw4 : w3.putObj R.l (.loop { R.loop (if st.isNone = true then LoopState.ready else .done) st with state := .exhausted }) = w4 at hend
      have ot4 : ∀ {k : Nat}, k ≠ R.l → w4.heap[k]? = w3.heap[k]? := fun hk => by rw [← hw4]; exact World.putObj_heap_other hk
      have hs4 : Sim P f1 h1 w4 := by rw [← hw4]; exact sl.sim.putO hl3 rfl _
      have sz4 : w4.heap.size = w3.heap.size := by rw [← hw4]; simp
      have k0 := gd.keep.size
      have k1 := sl.size
      have farM : ∀ {D : Nat}, w1.heap[D]? = some (.deferred (some [])) → D ≠ R.l → w4.heap[D]? = some (.deferred (some [])) := fun hD hne => (ot4 hne).trans (sl.far hs1 hD rfl hne)
      have good : Good P f0 h0 w0 f1 a h1 { tmps := a'.tmps, defers := mark ++ a'.defers } w4 := by
        refine ⟨hs4, gd.tm.mono sl.len sl.agree, ⟨fun d hd => ?_, ?_⟩, ⟨?_, ?_, ?_, by omega, fun r hr hno => ?_, ?_⟩, fun b o hb ho => ?_, gd.agree.trans sl.agree gd.len, Nat.le_trans gd.len sl.len⟩
        · rcases List.mem_append.1 hd with hd | hd
          · obtain ⟨D, q1, q2, q3, q4⟩ := hmark d hd
            have q5 := farM q4 q3
            exact ⟨D, q1, by omega, q5, fun b o hb ho => hs4.notIm q5 rfl b o hb (rw_alive ho)⟩
          · obtain ⟨D, q1, q2, q3, _⟩ := gd.df.each d hd
            have hDlt := (Array.getElem?_eq_some_iff.1 q3).1
            have q5 := farM ((hold D hDlt).trans q3) (by omega)
            exact ⟨D, q1, q2, q5, fun b o hb ho => hs4.notIm q5 rfl b o hb (rw_alive ho)⟩
        · refine List.nodup_append.2 ⟨hnd, gd.df.apart, fun d hd d2 hd2 he => ?_⟩
          obtain ⟨D, q1, q2, _⟩ := hmark d hd
          obtain ⟨D2, p1, p2, p3, _⟩ := gd.df.each d2 hd2
          have hDlt := (Array.getElem?_eq_some_iff.1 p3).1
          rw [q1, p1] at he
          injection he with he1 _
          injection he1 with he2
          omega
        · rw [← hw4]; exact sl.os.trans (hos.trans gd.keep.os)
        · rw [← hw4]; exact sl.tape.trans (htape.trans gd.keep.tape)
        · rw [← hw4]; exact sl.output.trans (hout.trans gd.keep.output)
        · rw [ot4 (by omega), sl.block r (by omega) (by omega) ?_, hold r (by omega)]
          · exact gd.keep.block r hr hno
          · intro b o hb ho he
            rcases gd.own b o hb ho with h2 | ⟨b0, o0, h2, h3, h4⟩
            · omega
            · exact hno b0 o0 h2 h3 (h4.trans he)
        · rw [← hw4]
          exact Nat.le_trans gd.keep.drawn (Nat.le_trans (Nat.le_of_eq hdr.symm) sl.drawn)
        · rcases sl.own b o hb ho with h2 | ⟨b0, o0, h2, h3, h4⟩
          · exact .inl (by omega)
          · rcases gd.own b0 o0 h2 h3 with h5 | ⟨b1, o1, h5, h6, h7⟩
            · exact .inl (by omega)
            · exact .inr ⟨b1, o1, h5, h6, h7.trans h4⟩
      have hq' := hq h1 st hZ
      refine ⟨st, w4, hend, ?_⟩
      cases st with
      | none => exact ⟨f1, a, h1, hq', good⟩
      | some c => exact hq' f0 w0 f1 _ w4 s0 good ro hrb
end Go.Am
set_option linter.unusedVariables false
set_option linter.unusedSimpArgs false
/- slices.SortFunc at rows of structs, by the library's contract. -/
namespace Go.Am
open Go Go.Proofs Go.Sort Go.Shelf

theorem grown_of {w w' : World} (h1 : w'.os = w.os) (h2 : w'.tape = w.tape) (h3 : w'.output = w.output) (h4 : w.heap.size ≤ w'.heap.size) (h5 : ∀ r, r < w.heap.size → w'.heap[r]? = w.heap[r]?) (h6 : w.drawn ≤ w'.drawn) : ∃ q os', w' = grow (w.drewN q) os' := by
  refine ⟨w'.drawn - w.drawn, w'.heap.extract w.heap.size w'.heap.size, ?_⟩
  obtain ⟨hp, tp, dr, os, out⟩ := w
  obtain ⟨hp', tp', dr', os', out'⟩ := w'
  simp only at h1 h2 h3 h4 h5 h6
  subst h1; subst h2; subst h3
  show World.mk hp' tp' dr' os' out' = World.mk (hp ++ hp'.extract hp.size hp'.size) tp' (dr + (dr' - dr)) os' out'
  have e1 : dr + (dr' - dr) = dr' := by omega
  have e2 : hp ++ hp'.extract hp.size hp'.size = hp' := by
    apply Array.ext_getElem?
    intro i
    by_cases hi : i < hp.size
    · rw [Array.getElem?_append_left hi, h5 i hi]
    · rw [Array.getElem?_append_right (by omega), Array.getElem?_extract]
      by_cases h7 : i < hp'.size
      · rw [if_pos (by omega)]
        congr 1; omega
      · rw [if_neg (by omega), Array.getElem?_eq_none (by omega)]
  rw [e1, e2]

section
variable {P : Program} {ρ : Ren} {α : Type} [Inhabited α] {enc : α → List Value} {k : Nat}

theorem flatK_eq (hk : ∀ x, (enc x).length = k) (l : List α) : flatK enc k l.toArray = flatV enc l := by
  have hs := flat_size hk l
  apply Array.ext
  · rw [size_flatK, hs]; simp
  · intro t h1 h2
    have ht : t < l.length * k := by rw [← hs]; exact h2
    have hk0 : 0 < k := Nat.pos_of_ne_zero fun e => by subst e; simp at ht
    have hq : t / k < l.length := Nat.div_lt_of_lt_mul (by rw [Nat.mul_comm]; exact ht)
    have hm : t % k < k := Nat.mod_lt _ hk0
    have e1 := get_flatK enc k l.toArray t (by simpa using ht)
    rw [getElem!_pos _ t h1] at e1
    rw [e1]
    have e2 := flat_getElem? hk hq hm
    rw [show t / k * k + t % k = t by rw [Nat.mul_comm]; exact Nat.div_add_mod t k, Array.getElem?_eq_getElem h2] at e2
    have e3 : l.toArray[t / k]! = l[t / k] := by
      rw [getElem!_pos _ _ (by simpa using hq)]; simp
    rw [e3, getElem!_pos _ _ (by rw [hk]; exact hm)]
    rw [List.getElem?_eq_getElem (by rw [hk]; exact hm)] at e2
    exact (Option.some.inj e2).symm

theorem cmpLays_of (hl : laidOutB P = true) {g : Nat} {cf : α → α → Int} (hp : ∀ x, ∀ v ∈ enc x, plain1 v = true)
    (hc : ∀ x y (h : AH), ACalls P g #[.agg (enc x).toArray, .agg (enc y).toArray] h (fun v h' => v = .int .i64 (cf x y) ∧ h' = h)) (blk off size : Nat) (w : World) : CmpLays P g #[] enc k cf blk off size w := by
  intro m os dk hs x y
  have hagg : ∀ x : α, plainB (.agg (enc x).toArray) = true := fun x => by
    show (enc x).toArray.all plain1 = true
    simp only [List.all_toArray, List.all_eq_true]
    exact hp x
  have key : ∀ W : World, Calls P g (#[.agg (enc x).toArray, .agg (enc y).toArray] ++ #[]) W fun e w' => e = .returned (.int .i64 (cf x y)) ∧ ∃ q os', w' = grow (W.drewN q) os' := by
    intro W
    refine ((hc x y (start P)).run at0 W _ (start_sim P hl W) ⟨by simp, fun i => ?_⟩).mono fun e w' hx => ?_
    · match i with
      | 0 => exact plain_refl (hagg x)
      | 1 => exact plain_refl (hagg y)
      | i + 2 => simp [Array.getD]; exact .junk _
    · obtain ⟨f', v, v', h', rfl, ⟨rfl, rfl⟩, st, hv⟩ := hx
      cases hv.int_inv
      refine ⟨rfl, grown_of st.keep.os st.keep.tape st.keep.output st.keep.size (fun r hr => st.keep.block r hr fun b o hb ho => by rw [start_norw P b o hb] at ho; cases ho) st.keep.drawn⟩
  exact key _

theorem ACalls.sort (L : SlLaysF0.n6 P ρ) (hl : laidOutB P = true) (aE : ∀ w, (isAgg (ρ.t 24)).run P w = .ok true w) (zE : ∀ w, (Go.sizeOf (ρ.t 24)).run P w = .ok k w) (hk : ∀ x, (enc x).length = k) (hp : ∀ x, ∀ v ∈ enc x, plain1 v = true) (cf : α → α → Int) (hO : SWO (ltOf cf))
    (hT : ∀ x y, (ltOf cf) x y = false → (ltOf cf) y x = false → x = y) {g : Nat} (hg : hasBody P g = true)
    (hc : ∀ x y (h : AH), ACalls P g #[.agg (enc x).toArray, .agg (enc y).toArray] h (fun v h' => v = .int .i64 (cf x y) ∧ h' = h)) {h : AH} {b es cap : Nat} {l : List α} (hb : h[b]? = some (.cells (flatV enc l) es true)) (hne : l ≠ []) (hsz : l.length < 4611686018427387904) :
    ACalls P (ρ.f 6) #[.slice (some ⟨b, 0, none⟩) l.length cap, .func (.func g) #[] #[]] h (fun v h' => v = undef ∧ h' = h.set b (.cells (flatV enc (l.mergeSort fun x y => !(ltOf cf) y x)) es true)) := by
  refine ⟨⟨_, _, rfl, rfl⟩, fun f w args' hs ha => ?_⟩
  obtain ⟨s', g', rfl, hs', hg'⟩ := arel_two ha
  have hgv : g' = .func (.func g) #[] #[] := by
    cases hg' with
    | func _ _ ys _ ds _ hx _ hc2 _ =>
      have e1 : ys = #[] := Array.eq_empty_of_size_eq_zero (by simpa using hx.symm)
      have e2 : ds = #[] := Array.eq_empty_of_size_eq_zero (by simpa using hc2.symm)
      rw [e1, e2]
  subst hgv
  rcases hs'.slice_inv with ⟨c', rfl, hbL, hcap⟩ | ⟨h0, _⟩
  case inr => exact absurd (List.length_eq_zero_iff.1 h0) hne
  obtain ⟨o', ho', hrel⟩ := hs.obj b _ hb rfl
  have hrel0 := hrel
  obtain ⟨c, elem, fr, rfl, q1, q2, q3, q4, q5, q6⟩ := hrel
  have hsize := flat_size hk l
  have hplain : ∀ (l : List α) (i : Nat), i < (flatV enc l).size → plain1 ((flatV enc l).getD i junk) = true := fun l i hi => by
    have hm : (flatV enc l).getD i junk ∈ l.flatMap enc := by
      have hi' : i < (l.flatMap enc).length := by simpa [flatV] using hi
      show (l.flatMap enc).toArray.getD i junk ∈ _
      rw [getD_lit]
      simp only [List.getD, List.getElem?_eq_getElem hi', Option.getD_some]
      exact List.getElem_mem hi'
    obtain ⟨x, _, hx⟩ := List.mem_flatMap.1 hm
    exact hp x _ hx
  have hcell : ∀ i, i < (flatV enc l).size → c[(f b).off + i]? = some ((flatV enc l).getD i junk) := fun i hi => by
    have h1 := plain1_inv (hplain l i hi) (q6 i hi).1
    have h2 : (f b).off + i < c.size := by rw [q1] at hi; omega
    rw [Array.getElem?_eq_getElem h2, ← h1]
    simp [Array.getD, h2]
  obtain ⟨hN, hfr⟩ := q4 rfl
  have hH : HoldsK enc k w (f b).blk ((f b).off + 0) l.toArray := by
    intro j hj
    rw [size_flatK] at hj
    have hj' : j < (flatV enc l).size := by rw [hsize]; simpa using hj
    rw [flatK_eq hk, Nat.add_zero]
    constructor
    · rw [cell_of_block ho', hcell j hj', getElem!_pos (flatV enc l) j hj']
      simp [Array.getD, hj']
    · simp only [World.frozen?, ho']
      exact hfr.at _ (by rw [q1] at hj'; omega)
  have hblk : (f b).blk < w.heap.size := (Array.getElem?_eq_some_iff.1 ho').1
  have eg : ∀ args w, (callFunc g args).run P w = .ok (.enter g args) w := run_callFunc hg
  have hcon := AnyQ.slices_SortFunc L k aE zE enc hk (fun x v hv => by have := plain1_one (hp x v hv); cases v <;> simp_all [Value.oneCell', plain1]) cf hO g #[] (f b).blk ((f b).off + 0) c' l.toArray w eg (cmpLays_of hl hp hc _ _ _ _) hH hblk (by simpa using hsz)
  have hsz2 : l.toArray.size = l.length := by simp
  rw [hsz2] at hcon
  refine hcon.mono fun e w' ⟨he, d', n, os, hpm, hsd, hw⟩ => ?_
  have hd : d' = (l.mergeSort fun x y => !(ltOf cf) y x).toArray := by
    have := sorted_unique_holds hO hT l.toArray d' (by simpa using hpm) (by simpa using hsd)
    rw [← Array.toArray_toList (xs := d'), this]
  subst hd
  have hlen : (l.mergeSort fun x y => !(ltOf cf) y x).length = l.length := List.length_mergeSort l
  generalize (l.mergeSort fun x y => !(ltOf cf) y x) = l2 at *
  have hsize2 := flat_size hk l2
  have hss : (flatV enc l2).size = (flatV enc l).size := by rw [hsize, hsize2, hlen]
  subst hw
  -- the row written
  have st1 : Step P f h w f (h.set b (.cells (flatV enc l2) es true)) (putRow id w (f b).blk ((f b).off + 0) (flatV enc l2)) := by
    have hw1 : (putRow id w (f b).blk ((f b).off + 0) (flatV enc l2)).heap[(f b).blk]? = some (.cells (putCells id ((f b).off + 0) (flatV enc l2) c) elem fr) := by
      show (w.heap.modify _ _)[_]? = _
      rw [Array.getElem?_modify, if_pos rfl, ho']; rfl
    refine Step.write hs hb rfl rfl ok_cells hw1 ⟨_, elem, fr, rfl, by rw [hss]; exact q1, q2, q3, fun _ => ⟨by simpa [putCells] using hN, by simpa [putCells] using hfr⟩, by simpa [putCells] using q5, fun i hi => ?_⟩ (fun r hr => ?_) rfl rfl rfl (by simp)
    · have h2 : (f b).off + i < c.size := by rw [hss, q1] at hi; omega
      have e : (putCells id ((f b).off + 0) (flatV enc l2) c).getD ((f b).off + i) junk = (flatV enc l2).getD i junk := by
        have h3 : (f b).off + i < (putCells id ((f b).off + 0) (flatV enc l2) c).size := by simpa [putCells] using h2
        rw [Array.getD_eq_getD_getElem?, Array.getElem?_eq_getElem h3]
        simp only [putCells, Array.getElem_mapIdx, Nat.add_zero, Option.getD_some]
        rw [if_pos (by omega)]
        have e5 : (f b).off + i - (f b).off = i := by omega
        rw [e5, getElem!_pos (flatV enc l2) i hi]
        simp [Array.getD, hi]
      rw [e]
      exact ⟨plain1_refl (hplain l2 i hi), plain1_one (hplain l2 i hi)⟩
    · show (w.heap.modify _ _)[_]? = _
      rw [Array.getElem?_modify, if_neg (fun e => hr e.symm)]
  refine ⟨f, undef, .tuple #[], _, he, ⟨rfl, rfl⟩, ?_, undef_rel⟩
  unfold sortWorldK
  have e6 : putRowK enc k (Sort.ahead w n) (f b).blk ((f b).off + 0) l2.toArray = Sort.ahead (putRow id w (f b).blk ((f b).off + 0) (flatV enc l2)) n := by
    unfold putRowK
    rw [flatK_eq hk, putRow_ahead]
  rw [e6]
  generalize putRow id w (f b).blk ((f b).off + 0) (flatV enc l2) = w1 at st1
  have hold : ∀ r, r < w1.heap.size → (grow (Sort.ahead w1 n) os).heap[r]? = w1.heap[r]? := fun r hr => by
    show (w1.heap ++ os)[r]? = _
    rw [Array.getElem?_append_left hr]
  refine st1.trans ⟨st1.sim.more hold, .refl _ _, Nat.le_refl _, ⟨rfl, rfl, rfl, ?_, fun r hr _ => hold r hr, ?_⟩, fun b o hb ho => .inr ⟨b, o, hb, ho, rfl⟩⟩
  · show w1.heap.size ≤ (w1.heap ++ os).size
    simp
  · show w1.drawn ≤ w1.drawn + n
    omega

theorem ACalls.sort0 (L : SlLaysF0.n6 P ρ) {h : AH} {fv : Value} : ACalls P (ρ.f 6) #[.slice none 0 0, fv] h (fun v h' => v = undef ∧ h' = h) := by
  refine ⟨⟨_, _, rfl, rfl⟩, fun f w args' hs ha => ?_⟩
  obtain ⟨s', g', rfl, hs', hg'⟩ := arel_two ha
  cases hs' with
  | nilSlice =>
    refine (AnyF.slices_SortFunc_none L none 0 g' w).mono fun e w' ⟨he, hw⟩ => ?_
    subst hw
    exact ⟨f, undef, .tuple #[], h, he, ⟨rfl, rfl⟩, Step.refl hs, undef_rel⟩

/-- the same, at a slice that has grown -/
theorem ACalls.sortO (L : SlLaysF0.n6 P ρ) (hl : laidOutB P = true) (aE : ∀ w, (isAgg (ρ.t 24)).run P w = .ok true w) (zE : ∀ w, (Go.sizeOf (ρ.t 24)).run P w = .ok k w) (hk : ∀ x, (enc x).length = k) (hp : ∀ x, ∀ v ∈ enc x, plain1 v = true) (cf : α → α → Int) (hO : SWO (ltOf cf))
    (hT : ∀ x y, (ltOf cf) x y = false → (ltOf cf) y x = false → x = y) {g : Nat} (hg : hasBody P g = true)
    (hc : ∀ x y (h : AH), ACalls P g #[.agg (enc x).toArray, .agg (enc y).toArray] h (fun v h' => v = .int .i64 (cf x y) ∧ h' = h)) {h : AH} {b es : Nat} {l : List α} (hb : h[b]? = some (outO enc es l)) (hsz : l.length < 4611686018427387904) :
    ACalls P (ρ.f 6) #[outV b l, .func (.func g) #[] #[]] h (fun v h' => v = undef ∧ h' = h.set b (outO enc es (l.mergeSort fun x y => !(ltOf cf) y x))) := by
  cases l with
  | nil =>
    refine (ACalls.sort0 L).mono fun v h' ⟨e1, e2⟩ => ⟨e1, ?_⟩
    rw [e2]
    simp only [List.mergeSort_nil]
    rw [set_same hb]
  | cons x l =>
    have hne : (x :: l).mergeSort (fun x y => !(ltOf cf) y x) ≠ [] := by
      intro e
      have := List.length_mergeSort (le := fun x y => !(ltOf cf) y x) (x :: l)
      rw [e] at this; simp at this
    rw [outV_ne (by simp), outO_ne hne]
    rw [outO_ne (by simp)] at hb
    exact ACalls.sort L hl aE zE hk hp cf hO hT hg hc hb (by simp) hsz
end
end Go.Am
