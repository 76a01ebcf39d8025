import Derived.Test.YtogefnepdjkioaaAm1
set_option linter.unusedVariables false
set_option linter.unusedSimpArgs false
/- What single operations do, on the abstract heap and in a world. -/
namespace Go.Am
open Go

def plain1 : Value → Bool
  | .bool _ | .int _ _ | .string _ | .nilFunc | .nilIface | .pointer none | .map none | .slice none _ _ => true
  | _ => false

def plainB : Value → Bool
  | .agg cs => cs.all plain1
  | .iface _ v => plain1 v
  | .func (.func _) xs cs => xs.size == 0 && cs.size == 0
  | v => plain1 v

def aconst (v : Value) : Value := if plainB v then v else junk

def aeval (P : Program) (a : Array Value) : Operand → Value
  | .tmp t => a.getD t junk
  | .const v => aconst v
  | .global g => if g < P.globals.size then .pointer (some ⟨g, 0, none⟩) else junk
  | .func F => .func (.func F) #[] #[]

theorem plain1_refl {f : Emb} {L : Nat} {v : Value} (h : plain1 v = true) : VRel f L v v := by
  cases v with
  | bool b => exact .bool b
  | int k n => exact .int k n
  | string s => exact .string s
  | nilFunc => exact .nilFunc
  | nilIface => exact .nilIface
  | pointer a => cases a <;> simp [plain1] at h; exact .nilPtr
  | map a => cases a <;> simp [plain1] at h; exact .nilMap
  | slice a l c => cases a <;> simp [plain1] at h; exact .nilSlice l c
  | _ => simp [plain1] at h

theorem plain1_one {v : Value} (h : plain1 v = true) : v.oneCell' = true := by
  cases v <;> simp_all [plain1, Value.oneCell']

theorem plain1_inv {f : Emb} {L : Nat} {v v' : Value} (h : plain1 v = true) (r : VRel f L v v') : v' = v := by
  cases r <;> first | rfl | simp [plain1, junk] at h

theorem getD_all {cs : Array Value} (h : cs.all plain1 = true) (i : Nat) (hi : i < cs.size) : plain1 (cs.getD i junk) = true := by
  rw [Array.all_eq_true] at h
  simpa [Array.getD, hi] using h i hi

theorem getD_ge {cs : Array Value} (i : Nat) (hi : ¬ i < cs.size) : cs.getD i junk = junk := by simp [Array.getD, hi]

theorem plain_agg_rel {f : Emb} {L : Nat} {cs : Array Value} (h : cs.all plain1 = true) : VRel f L (.agg cs) (.agg cs) := by
  refine .agg cs cs rfl (fun i => ?_) (fun i => ?_)
  · by_cases hi : i < cs.size
    · exact plain1_refl (getD_all h i hi)
    · rw [getD_ge i hi]; exact .junk _
  · by_cases hi : i < cs.size
    · exact plain1_one (getD_all h i hi)
    · rw [getD_ge i hi]; rfl

theorem arr_eq_of_rel {f : Emb} {L : Nat} {xs ys : Array Value} (h : xs.all plain1 = true) (hs : xs.size = ys.size) (hr : ∀ i : Nat, VRel f L (xs.getD i junk) (ys.getD i junk)) : ys = xs := by
  apply Array.ext (by omega)
  intro i h1 h2
  have := plain1_inv (getD_all h i h2) (hr i)
  simpa [Array.getD, h1, h2] using this

theorem plain_refl {f : Emb} {L : Nat} {v : Value} (h : plainB v = true) : VRel f L v v := by
  cases v with
  | agg cs => exact plain_agg_rel h
  | iface t v => exact .iface t v v (plain1_refl h)
  | func fn xs cs =>
    cases fn with
    | func F =>
      simp only [plainB, Bool.and_eq_true, beq_iff_eq] at h
      exact .func _ xs xs cs cs rfl rfl (fun i => by rw [getD_ge i (by omega)]; exact .junk _) rfl (fun i => by rw [getD_ge i (by omega)]; exact .junk _)
    | _ => simp [plainB, plain1] at h
  | _ => exact plain1_refl (by simpa [plainB] using h)

theorem plain_inv {f : Emb} {L : Nat} {v v' : Value} (h : plainB v = true) (r : VRel f L v v') : v' = v := by
  cases r with
  | agg xs ys hx hxy hone => rw [arr_eq_of_rel h hx hxy]
  | iface t v v' hv => rw [plain1_inv h hv]
  | func fn xs ys cs ds hfn hx hxy hc hcd =>
    cases fn with
    | func F =>
      simp only [plainB, Bool.and_eq_true, beq_iff_eq] at h
      have e1 : ys = xs := by apply Array.ext (by omega); intro i h1 h2; omega
      have e2 : ds = cs := by apply Array.ext (by omega); intro i h1 h2; omega
      rw [e1, e2]
    | _ => simp [plainB, plain1] at h
  | junk => simp [plainB, plain1, junk] at h
  | tuple => simp [plainB, plain1] at h
  | ptr => simp [plainB, plain1] at h
  | map => simp [plainB, plain1] at h
  | slice => simp [plainB, plain1] at h
  | slice0 => simp [plainB, plain1] at h
  | fz => simp [plainB, plain1] at h
  | fz0 => simp [plainB, plain1] at h
  | fp => simp [plainB, plain1] at h
  | _ => rfl

theorem aconst_rel {f : Emb} {L : Nat} (v : Value) : VRel f L (aconst v) v := by
  unfold aconst
  split
  · rename_i h; exact plain_refl h
  · exact .junk _

theorem aeval_rel {P : Program} {f : Emb} {h : AH} {w : World} {a : Array Value} {a' : Act} (hs : Sim P f h w) (ha : ARel f h.length a a'.tmps) (x : Operand) :
    VRel f h.length (aeval P a x) (a'.eval x) := by
  cases x with
  | tmp t =>
    have := ha.2 t
    simp only [aeval, Act.eval]
    by_cases ht : t < a.size
    · have ht' : t < a'.tmps.size := ha.1 ▸ ht
      simpa [Array.getD, ht, ht'] using this
    · rw [getD_ge t ht]; exact .junk _
  | const v => exact aconst_rel v
  | global g =>
    simp only [aeval, Act.eval]
    split
    · rename_i hg
      obtain ⟨h1, h2⟩ := hs.glob g hg
      exact .ptr g 0 g 0 (Nat.lt_of_lt_of_le hg hs.size) h1.symm (by omega)
    · exact .junk _
  | func F => exact .func _ #[] #[] #[] #[] rfl rfl (fun i => by simp; exact .junk _) rfl (fun i => by simp; exact .junk _)

/-- Programs of the model that ask nothing of the world. -/
def pureRun (P : Program) {α : Type} : Sem α → Option α
  | .pure a => some a
  | .program k => pureRun P (k P)
  | _ => none

theorem pureRun_run {P : Program} {α : Type} {s : Sem α} {a : α} (h : pureRun P s = some a) (w : World) : s.run P w = .ok a w := by
  induction s with
  | pure b => simp [pureRun] at h; subst h; rfl
  | program k ih => exact ih P h
  | _ => simp [pureRun] at h

theorem pureRun_bind {P : Program} {α β : Type} (s : Sem α) (k : α → Sem β) {a : α} (h : pureRun P s = some a) : pureRun P (s >>= k) = pureRun P (k a) := by
  induction s with
  | pure b => simp [pureRun] at h; subst h; rfl
  | program g ih => exact ih P h
  | _ => simp [pureRun] at h

/-! ### reading -/
theorem cell_of_block {w : World} {r : Nat} {c : Array Value} {t : TypeId} {fr : Nat × Nat} (h : w.heap[r]? = some (.cells c t fr)) (i : Nat) : w.cell? ⟨r, i, none⟩ = c[i]? := by
  simp [World.cell?, h]

/-- a row of cells lies there -/
def Held (f : Emb) (L : Nat) (w : World) (c : Array Value) (r base : Nat) : Prop := ∃ ds elem fr, w.heap[r]? = some (.cells ds elem fr) ∧ base + c.size ≤ ds.size ∧
  ∀ i : Nat, i < c.size → VRel f L (c.getD i junk) (ds.getD (base + i) junk) ∧ (ds.getD (base + i) junk).oneCell' = true

theorem Sim.held {P : Program} {f : Emb} {h : AH} {w : World} (hs : Sim P f h w) {b es : Nat} {c : Array Value} {rw : Bool} (hb : h[b]? = some (.cells c es rw)) : Held f h.length w c (f b).blk (f b).off := by
  obtain ⟨o', ho', c', elem, fr, rfl, h2, h3, h4, h5, h6, h7⟩ := hs.obj b _ hb rfl
  exact ⟨c', elem, fr, ho', by omega, h7⟩

theorem Sim.heldRom {P : Program} {f : Emb} {h : AH} {w : World} (hs : Sim P f h w) {c ds : Array Value} {r o : Nat} (hrom : f.rom r = some ds) (hle : o + c.size ≤ ds.size)
    (hxy : ∀ i : Nat, VRel f h.length (c.getD i junk) (if i < c.size then ds.getD (o + i) junk else junk)) (hone : ∀ i : Nat, i < c.size → (ds.getD (o + i) junk).oneCell' = true) : Held f h.length w c r o := by
  obtain ⟨⟨elem, fr, h1⟩, _⟩ := hs.rom r ds hrom
  exact ⟨ds, elem, fr, h1, hle, fun i hi => ⟨by have := hxy i; rwa [if_pos hi] at this, hone i hi⟩⟩

theorem Held.cell {f : Emb} {L : Nat} {w : World} {c : Array Value} {r base : Nat} (hh : Held f L w c r base) (i : Nat) (hi : i < c.size) :
    ∃ v', w.cell? ⟨r, base + i, none⟩ = some v' ∧ VRel f L (c.getD i junk) v' ∧ v'.oneCell' = true := by
  obtain ⟨c', elem, fr, ho', h6, h7⟩ := hh
  have hlt : base + i < c'.size := by omega
  obtain ⟨h8, h9⟩ := h7 i hi
  refine ⟨c'.getD (base + i) junk, ?_, h8, h9⟩
  rw [cell_of_block ho']
  simp [Array.getD, hlt]

theorem Sim.cell {P : Program} {f : Emb} {h : AH} {w : World} (hs : Sim P f h w) {b es : Nat} {c : Array Value} {rw : Bool} (hb : h[b]? = some (.cells c es rw)) (i : Nat) (hi : i < c.size) :
    ∃ v', w.cell? ⟨(f b).blk, (f b).off + i, none⟩ = some v' ∧ VRel f h.length (c.getD i junk) v' ∧ v'.oneCell' = true := (hs.held hb).cell i hi

theorem addr_add (b o j : Nat) : (⟨b, o, none⟩ : Addr).add j = ⟨b, o + j, none⟩ := by
  unfold Addr.add
  split
  · subst_vars; rfl
  · rfl

/-- the cells from an address on -/
theorem Held.loadCells {P : Program} {f : Emb} {L : Nat} {w : World} {c : Array Value} {r base : Nat} (hh : Held f L w c r base) (o n : Nat) (hn : o + n ≤ c.size) :
    ∃ ds : Array Value, (loadCells ⟨r, base + o, none⟩ n).run P w = .ok ds w ∧ ds.size = n ∧
      (∀ i : Nat, VRel f L ((c.extract o (o + n)).getD i junk) (ds.getD i junk)) ∧ ∀ i : Nat, (ds.getD i junk).oneCell' = true := by
  let g : Nat → Value := fun j => (w.cell? ⟨r, base + (o + j), none⟩).getD junk
  have hg : ∀ j, j < n → w.cell? ⟨r, base + (o + j), none⟩ = some (g j) ∧ VRel f L (c.getD (o + j) junk) (g j) ∧ (g j).oneCell' = true := by
    intro j hj
    obtain ⟨v', h1, h2, h3⟩ := hh.cell (o + j) (by omega)
    have : g j = v' := by simp [g, h1]
    rw [this]
    exact ⟨h1, h2, h3⟩
  refine ⟨((List.range n).map g).toArray, ?_, by simp, ?_, ?_⟩
  · refine run_loadCells w _ n g fun j hj => ?_
    rw [addr_add, Nat.add_assoc]
    exact (hg j hj).1
  · intro i
    by_cases hi : i < n
    · have e1 : (((List.range n).map g).toArray).getD i junk = g i := by simp [Array.getD, hi]
      have hsz : (c.extract o (o + n)).size = n := by simp; omega
      have e2 : (c.extract o (o + n)).getD i junk = c.getD (o + i) junk := by
        have : o + i < c.size := by omega
        have h3 : i < min (o + n) c.size - o := by omega
        simp [Array.getD, this, h3]
      rw [e1, e2]
      exact (hg i hi).2.1
    · have hsz : ¬ i < (c.extract o (o + n)).size := by simp; omega
      rw [getD_ge i hsz]
      exact .junk _
  · intro i
    by_cases hi : i < n
    · have e1 : (((List.range n).map g).toArray).getD i junk = g i := by simp [Array.getD, hi]
      rw [e1]; exact (hg i hi).2.2
    · rw [getD_ge i (by simpa using hi)]; rfl

theorem Sim.loadCells {P : Program} {f : Emb} {h : AH} {w : World} (hs : Sim P f h w) {b es : Nat} {c : Array Value} {rw : Bool} (hb : h[b]? = some (.cells c es rw)) (o n : Nat) (hn : o + n ≤ c.size) :
    ∃ ds : Array Value, (Go.loadCells ⟨(f b).blk, (f b).off + o, none⟩ n).run P w = .ok ds w ∧ ds.size = n ∧
      (∀ i : Nat, VRel f h.length ((c.extract o (o + n)).getD i junk) (ds.getD i junk)) ∧ ∀ i : Nat, (ds.getD i junk).oneCell' = true := (hs.held hb).loadCells o n hn

def isAggD : TypeDesc → Bool
  | .struct _ | .array _ _ => true
  | _ => false

theorem run_isAgg {P : Program} {t : TypeId} {d : TypeDesc} (h : P.underlying t = some d) (w : World) : (isAgg t).run P w = .ok (isAggD d) w := by
  simp only [isAgg, Sem.run_bind, run_underlying h, Result.andThen_ok]
  cases d <;> rfl

/-- what stands in a row -/
def aloadRow (P : Program) (t : TypeId) (c : Array Value) (o : Nat) : Option Value :=
  match P.underlying t, P.info? t with
  | some d, some i => if isAggD d then (if o + i.size ≤ c.size then some (.agg (c.extract o (o + i.size))) else none) else c[o]?
  | _, _ => none

def aload (P : Program) (h : AH) (t : TypeId) : Value → Option Value
  | .pointer (some ⟨b, o, none⟩) =>
    match h[b]? with
    | some (.cells c _ _) => aloadRow P t c o
    | _ => none
  | .func (.yield 1) cs ks => match fzN ks with
    | some k => aloadRow P t cs k
    | none => none
  | _ => none

theorem Held.loadVar {P : Program} {f : Emb} {L : Nat} {w : World} {c : Array Value} {rr base : Nat} (hh : Held f L w c rr base) {t : TypeId} {o : Nat} {r : Value}
    (ha : aloadRow P t c o = some r) : ∃ r', (loadVar t ⟨rr, base + o, none⟩).run P w = .ok r' w ∧ VRel f L r r' := by
  unfold aloadRow at ha
  split at ha
  · rename_i d i hu hi
    split at ha
    · rename_i hagg
      split at ha
      · rename_i hle
        obtain ⟨ds, h1, h2, h3, h4⟩ := hh.loadCells (P := P) o i.size hle
        refine ⟨.agg ds, ?_, ?_⟩
        · simp only [Go.loadVar, Sem.run_bind, run_isAgg hu, Result.andThen_ok, hagg, if_true, run_sizeOf w hi, Program.cellsOf, hi, Option.map_some, Option.getD_some, h1, Sem.run_pure]
        · simp only [Option.some.injEq] at ha
          subst ha
          exact .agg _ _ (by simp; omega) h3 h4
      · cases ha
    · rename_i hagg
      have hlt : o < c.size := (Array.getElem?_eq_some_iff.1 ha).1
      obtain ⟨v', h1, h2, h3⟩ := hh.cell o hlt
      refine ⟨v', ?_, ?_⟩
      · simp only [Bool.not_eq_true] at hagg
        simp only [Go.loadVar, Sem.run_bind, run_isAgg hu, Result.andThen_ok, hagg, Bool.false_eq_true, if_false, run_load, h1]
      · have : c.getD o junk = r := by
          have := (Array.getElem?_eq_some_iff.1 ha).2
          simp [Array.getD, hlt, this]
        rw [← this]; exact h2
  · cases ha

theorem sound_loadVar {P : Program} {f : Emb} {h : AH} {w : World} (hs : Sim P f h w) {t : TypeId} {b o : Nat} {r : Value}
    (ha : aload P h t (.pointer (some ⟨b, o, none⟩)) = some r) : ∃ r', (loadVar t ⟨(f b).blk, (f b).off + o, none⟩).run P w = .ok r' w ∧ VRel f h.length r r' := by
  unfold aload at ha
  simp only at ha
  split at ha
  · rename_i c es rw hb
    exact (hs.held hb).loadVar ha
  · cases ha

theorem sound_load {P : Program} {f : Emb} {h : AH} {w : World} (hs : Sim P f h w) {t : TypeId} {v v' r : Value} (hv : VRel f h.length v v')
    (ha : aload P h t v = some r) : ∃ r', (Instr.loadAt t v').run P w = .ok r' w ∧ VRel f h.length r r' := by
  cases hv with
  | ptr b o r' o' hb hr ho =>
    subst hr; subst ho
    obtain ⟨r1, h1, h2⟩ := sound_loadVar hs ha
    exact ⟨r1, by simp only [Instr.loadAt, Instr.sureAddr, Sem.run_bind, Sem.run_pure, Result.andThen_ok, h1], h2⟩
  | fp cs k r' o o' ds hrom hle ho hxy hone =>
    subst ho
    simp only [aload, fzN_lit] at ha
    obtain ⟨r1, h1, h2⟩ := (hs.heldRom hrom hle hxy hone).loadVar ha
    exact ⟨r1, by simp only [Instr.loadAt, Instr.sureAddr, Sem.run_bind, Sem.run_pure, Result.andThen_ok, h1], h2⟩
  | func fn xs ys cs ds hfn => exfalso; cases fn <;> simp [Fn.plain, aload] at hfn ha
  | _ => simp [aload, junk] at ha

end Go.Am
