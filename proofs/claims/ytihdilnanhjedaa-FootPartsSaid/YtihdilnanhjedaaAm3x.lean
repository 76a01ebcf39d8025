import Derived.Test.YtihdilnanhjedaaAm0x
set_option linter.unusedVariables false
set_option linter.unusedSimpArgs false
/- Writing and making. -/
namespace Go.Am
open Go

def blit (c : Array Value) (o : Nat) : List Value → Array Value
  | [] => c
  | v :: r => blit (c.setIfInBounds o v) (o + 1) r

theorem size_blit (c : Array Value) (o : Nat) (vs : List Value) : (blit c o vs).size = c.size := by
  induction vs generalizing c o with
  | nil => rfl
  | cons v r ih => simp [blit, ih]

def storable : Value → Bool
  | .tuple _ => false
  | .chan _ => false
  | _ => true

theorem storable_cells {f : Emb} {L : Nat} {v v' : Value} (h : storable v = true) (r : VRel f L v v') :
    v.cells.size = v'.cells.size ∧ ∀ i : Nat, VRel f L (v.cells.getD i junk) (v'.cells.getD i junk) ∧ (v'.cells.getD i junk).oneCell' = true := by
  have one : ∀ (x y : Value), VRel f L x y → y.oneCell' = true → x.cells = #[x] → y.cells = #[y] →
      x.cells.size = y.cells.size ∧ ∀ i : Nat, VRel f L (x.cells.getD i junk) (y.cells.getD i junk) ∧ (y.cells.getD i junk).oneCell' = true := by
    intro x y hxy ho hx hy
    rw [hx, hy]
    refine ⟨rfl, fun i => ?_⟩
    cases i with
    | zero => exact ⟨hxy, ho⟩
    | succ i => simp [Array.getD]; exact ⟨.junk _, rfl⟩
  cases r with
  | junk => simp [storable, junk] at h
  | tuple => simp [storable] at h
  | agg xs ys hx hxy hone => exact ⟨hx, fun i => ⟨hxy i, hone i⟩⟩
  | bool b => exact one _ _ (.bool b) rfl rfl rfl
  | int k n => exact one _ _ (.int k n) rfl rfl rfl
  | string s => exact one _ _ (.string s) rfl rfl rfl
  | nilFunc => exact one _ _ .nilFunc rfl rfl rfl
  | nilIface => exact one _ _ .nilIface rfl rfl rfl
  | nilPtr => exact one _ _ .nilPtr rfl rfl rfl
  | ptr b o r o' hb hr ho => exact one _ _ (.ptr b o r o' hb hr ho) rfl rfl rfl
  | nilMap => exact one _ _ .nilMap rfl rfl rfl
  | map b r hb hr => exact one _ _ (.map b r hb hr) rfl rfl rfl
  | nilSlice l c => exact one _ _ (.nilSlice l c) rfl rfl rfl
  | slice b o l c c' r o' hb hr ho hc => exact one _ _ (.slice b o l c c' r o' hb hr ho hc) rfl rfl rfl
  | slice0 a a' hb => exact one _ _ (.slice0 a a' hb) rfl rfl rfl
  | func fn xs ys cs ds hfn hx hxy hc hcd => exact one _ _ (.func fn xs ys cs ds hfn hx hxy hc hcd) rfl rfl rfl
  | iface t v v' hv => exact one _ _ (.iface t v v' hv) rfl rfl rfl
  | fz cs n r o c ds hrom hle hn hxy hone => exact one _ _ (.fz cs n r o c ds hrom hle hn hxy hone) rfl rfl rfl
  | fz0 a c => exact one _ _ (.fz0 a c) rfl rfl rfl
  | bnil => exact one _ _ .bnil rfl rfl rfl
  | fp cs k r o o' ds hrom hle ho hxy hone => exact one _ _ (.fp cs k r o o' ds hrom hle ho hxy hone) rfl rfl rfl

theorem setCell_heap {w : World} {r : Nat} {c : Array Value} {t : TypeId} {fr : Nat × Nat} (h : w.heap[r]? = some (.cells c t fr)) (o : Nat) (v : Value) :
    (w.setCell ⟨r, o, none⟩ v).heap[r]? = some (.cells (c.setIfInBounds o v) t fr) ∧ (∀ r', r' ≠ r → (w.setCell ⟨r, o, none⟩ v).heap[r']? = w.heap[r']?) := by
  constructor
  · simp [World.setCell, Array.getElem?_modify, h]
  · intro r' hr'
    simp only [World.setCell, Array.getElem?_modify]
    rw [if_neg (fun e => hr' e.symm)]

theorem setCells_heap (vs : List Value) : ∀ {w : World} {r : Nat} {c : Array Value} {t : TypeId} {fr : Nat × Nat}, w.heap[r]? = some (.cells c t fr) → ∀ (o : Nat),
    (w.setCells r o vs).heap[r]? = some (.cells (blit c o vs) t fr) ∧ (∀ r', r' ≠ r → (w.setCells r o vs).heap[r']? = w.heap[r']?) ∧
      (w.setCells r o vs).os = w.os ∧ (w.setCells r o vs).tape = w.tape ∧ (w.setCells r o vs).output = w.output ∧ (w.setCells r o vs).heap.size = w.heap.size ∧ (w.setCells r o vs).drawn = w.drawn := by
  induction vs with
  | nil => intro w r c t fr h o; exact ⟨h, fun _ _ => rfl, rfl, rfl, rfl, rfl, rfl⟩
  | cons v rest ih =>
    intro w r c t fr h o
    obtain ⟨h1, h2⟩ := setCell_heap h o v
    obtain ⟨h3, h4, h5, h6, h7, h8, h9⟩ := ih h1 (o + 1)
    refine ⟨h3, fun r' hr' => (h4 r' hr').trans (h2 r' hr'), h5, h6, h7, ?_, h9⟩
    show ((w.setCell ⟨r, o, none⟩ v).setCells r (o + 1) rest).heap.size = _
    rw [h8]; simp

theorem ORel.set {f : Emb} {L : Nat} {I : Img} {c c' : Array Value} {es : Nat} {elem : TypeId} {fr : Nat × Nat} (h : ORel f L I (.cells c es true) (.cells c' elem fr)) {o : Nat} (ho : o < c.size)
    {v v' : Value} (hv : VRel f L v v') (h1 : v'.oneCell' = true) : ORel f L I (.cells (c.setIfInBounds o v) es true) (.cells (c'.setIfInBounds (I.off + o) v') elem fr) := by
  obtain ⟨c'', elem', fr', he, h2, h3, h4, h5, h6, h7⟩ := h
  cases he
  refine ⟨_, _, _, rfl, by simpa using h2, h3, h4, by simpa using h5, by simpa using h6, fun i hi => ?_⟩
  have hi' : i < c.size := by simpa using hi
  by_cases e : o = i
  · subst e
    have hlt : I.off + o < c'.size := by omega
    simp [Array.getD, hi', hlt]
    exact ⟨hv, h1⟩
  · have h8 := h7 i hi'
    simp only [Array.getD_eq_getD_getElem?] at h8 ⊢
    rw [Array.getElem?_setIfInBounds_ne e, Array.getElem?_setIfInBounds_ne (by omega)]
    exact h8

theorem ORel.blit {f : Emb} {L : Nat} {I : Img} {es : Nat} {elem : TypeId} {fr : Nat × Nat} (vs : List Value) : ∀ (vs' : List Value) (c c' : Array Value) (o : Nat),
    ORel f L I (.cells c es true) (.cells c' elem fr) → vs.length = vs'.length → o + vs.length ≤ c.size → (∀ i : Nat, VRel f L (vs.getD i junk) (vs'.getD i junk) ∧ (vs'.getD i junk).oneCell' = true) →
    ORel f L I (.cells (blit c o vs) es true) (.cells (Am.blit c' (I.off + o) vs') elem fr) := by
  induction vs with
  | nil =>
    intro vs' c c' o h hl _ _
    cases vs' with
    | nil => exact h
    | cons => simp at hl
  | cons v r ih =>
    intro vs' c c' o h hl ho hv
    cases vs' with
    | nil => simp at hl
    | cons v' r' =>
      simp only [List.length_cons] at hl ho
      have h0 := hv 0
      have h1 := h.set (o := o) (by omega) h0.1 h0.2
      have := ih r' _ _ (o + 1) h1 (by omega) (by simp; omega) (fun i => by simpa using hv (i + 1))
      simpa [Am.blit, Nat.add_assoc] using this

/-- writing cells, whatever they are -/
theorem sound_storeCells {P : Program} {f : Emb} {h : AH} {w : World} (hs : Sim P f h w) {b es : Nat} {c : Array Value} (hb : h[b]? = some (.cells c es true)) {o : Nat} {vs vs' : List Value}
    (hl : vs.length = vs'.length) (ho : o + vs.length ≤ c.size) (hv : ∀ i : Nat, VRel f h.length (vs.getD i junk) (vs'.getD i junk) ∧ (vs'.getD i junk).oneCell' = true) :
    ∃ w1, (storeCells ⟨(f b).blk, (f b).off + o, none⟩ vs').run P w = .ok () w1 ∧ Step P f h w f (h.set b (.cells (blit c o vs) es true)) w1 := by
  obtain ⟨o', ho', hrel⟩ := hs.obj b _ hb rfl
  have hrel0 := hrel
  obtain ⟨c', elem, fr, rfl, h2, h3, h4, h5, h6, h7⟩ := hrel
  obtain ⟨hN, hfr⟩ := h5 rfl
  have hlen : ∀ j, j < vs'.length → (f b).off + o + j < c'.size := fun j hj => by omega
  have hrun := run_storeCells_cells (P := P) (f b).blk ((f b).off + o) vs' 0 w
    (fun j hj => by rw [cell_of_block ho']; simp [hlen j hj])
    (fun j hj => by
      simp only [World.frozen?, ho']
      exact hfr.at _ (by simpa using hlen j hj))
    (fun v hv' => by
      obtain ⟨i, hi⟩ := List.mem_iff_getElem?.1 hv'
      have := (hv i).2
      simpa [List.getD, hi] using this)
  obtain ⟨g1, g2, g3, g4, g5, g6, g7⟩ := setCells_heap vs' ho' ((f b).off + o + 0)
  refine ⟨_, hrun, Step.write hs hb rfl rfl ok_cells g1 ?_ g2 g3 g4 g5 g6 g7⟩
  exact ORel.blit vs vs' c c' o hrel0 hl ho hv

def astore (P : Program) (h : AH) (t : TypeId) (av v : Value) : Option AH :=
  match av with
  | .pointer (some ⟨b, o, none⟩) =>
    match h[b]? with
    | some (.cells c es true) =>
      match P.info? t with
      | some i => if storable v = true ∧ v.cells.size = i.size ∧ o + v.cells.size ≤ c.size then some (h.set b (.cells (blit c o v.cells.toList) es true)) else none
      | none => none
    | _ => none
  | _ => none

theorem sound_store {P : Program} {f : Emb} {h h1 : AH} {w : World} (hs : Sim P f h w) {t : TypeId} {p p' v v' : Value} (hp : VRel f h.length p p') (hv : VRel f h.length v v')
    (ha : astore P h t p v = some h1) : ∃ w1, (Instr.storeAt t p' v').run P w = .ok () w1 ∧ Step P f h w f h1 w1 := by
  cases hp with
  | ptr b o r' o' hb hr ho =>
    subst hr; subst ho
    simp only [astore] at ha
    split at ha
    · rename_i c es hb'
      split at ha
      · rename_i i hi
        split at ha
        · rename_i hcond
          obtain ⟨h2, h3, h4⟩ := hcond
          simp only [Option.some.injEq] at ha
          subst ha
          obtain ⟨h5, h6⟩ := storable_cells h2 hv
          obtain ⟨w1, h7, h8⟩ := sound_storeCells hs hb' (o := o) (vs := v.cells.toList) (vs' := v'.cells.toList) (by simpa using h5) (by simpa using h4) (fun j => by
            have := h6 j
            simpa [Array.getD_eq_getD_getElem?, List.getD] using this)
          refine ⟨w1, ?_, h8⟩
          have hsz : ¬ (v'.cells.size ≠ P.cellsOf t) := by simp [Program.cellsOf, hi]; omega
          simp only [Instr.storeAt, Instr.sureAddr, Sem.run_bind, Sem.run_pure, Result.andThen_ok, storeVar, run_sizeOf w hi, hsz, if_false, h7]
        · cases ha
      · cases ha
    · cases ha
  | _ => simp [astore, junk] at ha

/-! ### making -/
theorem cells_orel {f : Emb} {L : Nat} {c c' : Array Value} {es : Nat} {elem : TypeId} {r : Nat} (hsz : c.size = c'.size)
    (hr : ∀ i : Nat, VRel f L (c.getD i junk) (c'.getD i junk) ∧ (c'.getD i junk).oneCell' = true) (rw : Bool) (htag : tagN ≤ es → es = tagN + elem) :
    ORel f L ⟨r, 0, c.size, c.size, es⟩ (.cells c es rw) (.cells c' elem (0, 0)) :=
  ⟨c', elem, (0, 0), rfl, rfl, rfl, by simp, fun _ => ⟨by simp [hsz], NoFr.zero _, fun h => ⟨htag h, rfl, hsz⟩⟩, by simp [hsz], fun i _ => by simpa using hr i⟩

theorem sound_newVar {P : Program} {f : Emb} {h : AH} {w : World} (hs : Sim P f h w) (t : TypeId) (es : Nat) (htag : tagN ≤ es → es = tagN + t) {v v' : Value} (hv : VRel f h.length v v') (hst : storable v = true) :
    ∃ f1 w1, (newVar t v').run P w = .ok ⟨w.heap.size, 0, none⟩ w1 ∧ Step P f h w f1 (h ++ [.cells v.cells es true]) w1 ∧ f1 h.length = ⟨w.heap.size, 0, v.cells.size, v.cells.size, es⟩ := by
  obtain ⟨h5, h6⟩ := storable_cells hst hv
  exact ⟨_, _, by simp [newVar, newRow], Step.alloc hs (.cells v.cells es true) (.cells v'.cells t) ⟨w.heap.size, 0, v.cells.size, v.cells.size, es⟩ rfl (cells_orel h5 h6 true htag), upd_eq _ _ _⟩

theorem new_ptr {f1 : Emb} {L : Nat} {I : Img} (h : f1 L = I) (ho : I.off = 0) : VRel f1 (L + 1) (.pointer (some ⟨L, 0, none⟩)) (.pointer (some ⟨I.blk, 0, none⟩)) :=
  .ptr L 0 _ _ (by omega) (by rw [h]) (by rw [h, ho])

def abox (h : AH) (v : Value) : Option (Value × AH) :=
  if storable v then some (.pointer (some ⟨h.length, 0, none⟩), h ++ [.cells v.cells 0 true]) else none

theorem sound_box {P : Program} {f : Emb} {h : AH} {w : World} (hs : Sim P f h w) (t : TypeId) {v v' : Value} (hv : VRel f h.length v v') {r : Value} {h1 : AH} (ha : abox h v = some (r, h1)) :
    ∃ f1 r' w1, (Instr.box t v').run P w = .ok r' w1 ∧ Step P f h w f1 h1 w1 ∧ VRel f1 h1.length r r' := by
  unfold abox at ha
  split at ha
  · rename_i hst
    simp only [Option.some.injEq, Prod.mk.injEq] at ha
    obtain ⟨rfl, rfl⟩ := ha
    obtain ⟨f1, w1, h2, h3, h4⟩ := sound_newVar hs t 0 (fun h => absurd h (by decide)) hv hst
    refine ⟨f1, .pointer (some ⟨w.heap.size, 0, none⟩), w1, by simp only [Instr.box, Sem.run_bind, h2, Result.andThen_ok, Sem.run_pure], h3, ?_⟩
    have := new_ptr h4 rfl
    simpa using this
  · cases ha

/-- strings.Builder -/
def isBld (P : Program) (t : TypeId) : Bool :=
  match P.info? t with
  | some i => match i.desc with
    | .named n _ => n == "strings.Builder"
    | _ => false
  | none => false
/-- the slice of a builder that has not been written -/
def bnil : Value := .func (.yield 2) #[] #[]
def abld (h : AH) (t : TypeId) (z : Value) : Option (Value × AH) :=
  match z.cells.toList with
  | [.pointer none, .slice none 0 0] => some (.pointer (some ⟨h.length, 0, none⟩), h ++ [.cells #[.pointer none, bnil] (tagN + t) true])
  | _ => none
def aalloc (P : Program) (h : AH) (t : TypeId) : Option (Value × AH) :=
  match P.info? t with
  | some i => match i.zero with
    | some z => if isBld P t then abld h t z else if plainB z && storable z then some (.pointer (some ⟨h.length, 0, none⟩), h ++ [.cells z.cells 0 true]) else none
    | none => none
  | none => none

theorem run_zeroValue {P : Program} {t : TypeId} {i : TypeInfo} {z : Value} (hi : P.info? t = some i) (hz : i.zero = some z) (w : World) : (zeroValue t).run P w = .ok z w := by
  simp [zeroValue, run_typeInfo w hi, hz]

theorem sound_alloc {P : Program} {f : Emb} {h : AH} {w : World} (hs : Sim P f h w) (t : TypeId) {r : Value} {h1 : AH} (ha : aalloc P h t = some (r, h1)) :
    ∃ f1 r' w1, (Instr.alloc t true (.tuple #[])).run P w = .ok r' w1 ∧ Step P f h w f1 h1 w1 ∧ VRel f1 h1.length r r' := by
  unfold aalloc at ha
  split at ha
  · rename_i i hi
    split at ha
    · rename_i z hz
      split at ha
      · unfold abld at ha
        split at ha
        case h_2 => cases ha
        rename_i hzc
        cases ha
        have hzc' : z.cells = #[.pointer none, .slice none 0 0] := by
          have := congrArg List.toArray hzc
          simpa using this
        have hor : ORel f h.length ⟨w.heap.size, 0, 2, 2, tagN + t⟩ (.cells #[.pointer none, bnil] (tagN + t) true) (.cells z.cells t (0, 0)) := by
          rw [hzc']
          have hcr : ∀ i : Nat, VRel f h.length ((#[.pointer none, bnil] : Array Value).getD i junk) ((#[.pointer none, .slice none 0 0] : Array Value).getD i junk) ∧ ((#[.pointer none, .slice none 0 0] : Array Value).getD i junk).oneCell' = true := fun i => by
            match i with
            | 0 => exact ⟨.nilPtr, rfl⟩
            | 1 => exact ⟨.bnil, rfl⟩
            | i + 2 => exact ⟨by simp [Array.getD]; exact .junk _, by simp [Array.getD]; rfl⟩
          exact cells_orel (c := #[.pointer none, bnil]) (c' := #[.pointer none, .slice none 0 0]) rfl hcr true (fun _ => rfl)
        have st := Step.alloc hs (.cells #[.pointer none, bnil] (tagN + t) true) (.cells z.cells t (0, 0)) ⟨w.heap.size, 0, 2, 2, tagN + t⟩ rfl hor
        refine ⟨_, .pointer (some ⟨w.heap.size, 0, none⟩), _, ?_, st, ?_⟩
        · simp only [Instr.alloc, Sem.run_bind, run_zeroValue hi hz, newVar, newRow, run_newObj, Result.andThen_ok, Sem.run_pure]
          rfl
        · have := new_ptr (f1 := upd f h.length ⟨w.heap.size, 0, 2, 2, tagN + t⟩) (upd_eq f h.length _) rfl
          simpa using this
      split at ha
      · rename_i hp
        simp only [Bool.and_eq_true] at hp
        simp only [Option.some.injEq, Prod.mk.injEq] at ha
        obtain ⟨rfl, rfl⟩ := ha
        obtain ⟨f1, w1, h2, h3, h4⟩ := sound_newVar hs t 0 (fun h => absurd h (by decide)) (plain_refl (f := f) (L := h.length) hp.1) hp.2
        refine ⟨f1, .pointer (some ⟨w.heap.size, 0, none⟩), w1, by simp only [Instr.alloc, Sem.run_bind, run_zeroValue hi hz, h2, Result.andThen_ok, Sem.run_pure], h3, ?_⟩
        have := new_ptr h4 rfl
        simpa using this
      · cases ha
    · cases ha
  · cases ha

end Go.Am
set_option linter.unusedVariables false
set_option linter.unusedSimpArgs false
/- Composites, indexes, slices. -/
namespace Go.Am
open Go

theorem fold_blit (off : Nat) (l : List Value) : ∀ (k : Nat) (cells : Array Value),
    (l.zipIdx k).foldl (fun (cs : Array Value) (x : Value × Nat) => cs.setIfInBounds (off + x.2) x.1) cells = blit cells (off + k) l := by
  induction l with
  | nil => intro k cells; rfl
  | cons v r ih => intro k cells; simp only [List.zipIdx_cons, List.foldl_cons, ih, blit, Nat.add_assoc]

def afill (place : Nat → Option (Nat × Nat)) (cells : Array Value) : List (Nat × Value) → Option (Array Value)
  | [] => some cells
  | (i, v) :: rest =>
    match place i with
    | none => none
    | some (off, size) => if storable v = true ∧ v.cells.size = size ∧ off + v.cells.size ≤ cells.size then afill place (blit cells off v.cells.toList) rest else none

/-- rows of values, and of cells -/
def CRel (f : Emb) (L : Nat) (c c' : Array Value) : Prop := c.size = c'.size ∧ ∀ i : Nat, VRel f L (c.getD i junk) (c'.getD i junk) ∧ (c'.getD i junk).oneCell' = true

theorem CRel.set {f : Emb} {L : Nat} {c c' : Array Value} (h : CRel f L c c') (o : Nat) {v v' : Value} (hv : VRel f L v v') (h1 : v'.oneCell' = true) :
    CRel f L (c.setIfInBounds o v) (c'.setIfInBounds o v') := by
  refine ⟨by simpa using h.1, fun i => ?_⟩
  by_cases e : o = i
  · subst e
    by_cases hi : o < c.size
    · have hi' : o < c'.size := h.1 ▸ hi
      simp [Array.getD, hi, hi']
      exact ⟨hv, h1⟩
    · have hi' : ¬ o < c'.size := h.1 ▸ hi
      rw [getD_ge o (by simpa using hi), getD_ge o (by simpa using hi')]
      exact ⟨.junk _, rfl⟩
  · have h8 := h.2 i
    simp only [Array.getD_eq_getD_getElem?] at h8 ⊢
    rw [Array.getElem?_setIfInBounds_ne e, Array.getElem?_setIfInBounds_ne e]
    exact h8

theorem CRel.blit {f : Emb} {L : Nat} (vs : List Value) : ∀ (vs' : List Value) (c c' : Array Value) (o : Nat), CRel f L c c' → vs.length = vs'.length →
    (∀ i : Nat, VRel f L (vs.getD i junk) (vs'.getD i junk) ∧ (vs'.getD i junk).oneCell' = true) → CRel f L (blit c o vs) (Am.blit c' o vs') := by
  induction vs with
  | nil =>
    intro vs' c c' o h hl _
    cases vs' with
    | nil => exact h
    | cons => simp at hl
  | cons v r ih =>
    intro vs' c c' o h hl hv
    cases vs' with
    | nil => simp at hl
    | cons v' r' =>
      simp only [List.length_cons] at hl
      have h0 := hv 0
      exact ih r' _ _ (o + 1) (h.set o h0.1 h0.2) (by omega) (fun i => by simpa using hv (i + 1))

theorem CRel.of_storable {f : Emb} {L : Nat} {v v' : Value} (h : storable v = true) (r : VRel f L v v') : CRel f L v.cells v'.cells := storable_cells h r

theorem CRel.list {f : Emb} {L : Nat} {c c' : Array Value} (h : CRel f L c c') : c.toList.length = c'.toList.length ∧
    ∀ i : Nat, VRel f L (c.toList.getD i junk) (c'.toList.getD i junk) ∧ (c'.toList.getD i junk).oneCell' = true :=
  ⟨by simpa using h.1, fun i => by simpa [Array.getD_eq_getD_getElem?, List.getD] using h.2 i⟩

theorem CRel.agg {f : Emb} {L : Nat} {c c' : Array Value} (h : CRel f L c c') : VRel f L (.agg c) (.agg c') := .agg _ _ h.1 (fun i => (h.2 i).1) (fun i => (h.2 i).2)

def PRel (f : Emb) (L : Nat) : List (Nat × Value) → List (Nat × Value) → Prop
  | [], [] => True
  | (i, v) :: r, (i', v') :: r' => i = i' ∧ VRel f L v v' ∧ PRel f L r r'
  | _, _ => False

theorem fill_rel {f : Emb} {L : Nat} (place : Nat → Option (Nat × Nat)) (ps : List (Nat × Value)) : ∀ (ps' : List (Nat × Value)) (c c' r : Array Value), CRel f L c c' → PRel f L ps ps' →
    afill place c ps = some r → ∃ r', Instr.fill place c' ps' = some r' ∧ CRel f L r r' := by
  induction ps with
  | nil =>
    intro ps' c c' r h hp ha
    cases ps' with
    | nil => simp only [afill, Option.some.injEq] at ha; subst ha; exact ⟨c', rfl, h⟩
    | cons => simp [PRel] at hp
  | cons p rest ih =>
    intro ps' c c' r h hp ha
    obtain ⟨i, v⟩ := p
    cases ps' with
    | nil => simp [PRel] at hp
    | cons p' rest' =>
      obtain ⟨i', v'⟩ := p'
      obtain ⟨rfl, hv, hr⟩ := hp
      simp only [afill] at ha
      split at ha
      · cases ha
      · rename_i off size hpl
        split at ha
        · rename_i hc
          obtain ⟨h1, h2, h3⟩ := hc
          have hcr := CRel.of_storable h1 hv
          obtain ⟨hl, hl2⟩ := hcr.list
          obtain ⟨r', h4, h5⟩ := ih rest' _ _ r (CRel.blit _ _ c c' off h hl hl2) hr ha
          refine ⟨r', ?_, h5⟩
          simp only [Instr.fill, hpl]
          have hb : ¬ ((v'.cells.size ≠ size || off + v'.cells.size > c'.size) = true) := by
            have := hcr.1; have := h.1
            simp; omega
          have hz : (v'.cells.zipIdx.foldl (fun (cs : Array Value) (x : Value × Nat) => cs.setIfInBounds (off + x.2) x.1) c') = Am.blit c' off v'.cells.toList := by
            rw [← Array.foldl_toList, Array.toList_zipIdx, fold_blit]
            simp
          simp only [bne_iff_ne, ne_eq, Bool.or_eq_true, decide_eq_true_eq] at hb ⊢
          rw [if_neg hb]
          rw [← h4]
          exact congrArg (fun x => Instr.fill place x rest') hz
        · cases ha

theorem plain_crel {f : Emb} {L : Nat} {z : Value} (h : plainB z = true) (hs : storable z = true) : CRel f L z.cells z.cells := CRel.of_storable hs (plain_refl h)

def abuild (P : Program) (t : TypeId) (parts : List (Nat × Value)) : Option Value :=
  match P.info? t with
  | some i => match i.zero with
    | some z => if plainB z && storable z then
        match P.underlying t with
        | some (.struct fields) => match pureRun P (fields.mapM fun f => do pure (f.offset, ← sizeOf f.type) : Sem _) with
          | some places => (afill (places[·]?) z.cells parts).map .agg
          | none => none
        | some (.array _ elem) => match P.info? elem with
          | some ie => (afill (fun i => some (i * ie.size, ie.size)) z.cells parts).map .agg
          | none => none
        | _ => none
      else none
    | none => none
  | none => none

theorem sound_build {P : Program} {f : Emb} {L : Nat} (w : World) (t : TypeId) {parts parts' : Array (Nat × Value)} (hp : PRel f L parts.toList parts'.toList) {r : Value} (ha : abuild P t parts.toList = some r) :
    ∃ r', (Instr.build t parts').run P w = .ok r' w ∧ VRel f L r r' := by
  unfold abuild at ha
  split at ha
  · rename_i i hi
    split at ha
    · rename_i z hz
      split at ha
      · rename_i hpz
        simp only [Bool.and_eq_true] at hpz
        have hcr : CRel f L z.cells z.cells := plain_crel hpz.1 hpz.2
        split at ha
        · rename_i fields hu
          split at ha
          · rename_i places hpl
            simp only [Option.map_eq_some_iff] at ha
            obtain ⟨cs, h1, rfl⟩ := ha
            obtain ⟨r', h2, h3⟩ := fill_rel _ _ parts'.toList _ _ cs hcr hp h1
            refine ⟨.agg r', ?_, h3.agg⟩
            have hrun := pureRun_run hpl w
            simp only [Instr.build, Sem.run_bind, run_zeroValue hi hz, Result.andThen_ok, run_underlying hu, hrun, h2, Sem.run_pure]
          · cases ha
        · rename_i n elem hu
          split at ha
          · rename_i ie hie
            simp only [Option.map_eq_some_iff] at ha
            obtain ⟨cs, h1, rfl⟩ := ha
            obtain ⟨r', h2, h3⟩ := fill_rel _ _ parts'.toList _ _ cs hcr hp h1
            refine ⟨.agg r', ?_, h3.agg⟩
            have hsz : P.cellsOf elem = ie.size := by simp [Program.cellsOf, hie]
            simp only [Instr.build, Sem.run_bind, run_zeroValue hi hz, Result.andThen_ok, run_underlying hu, run_sizeOf w hie, hsz, h2, Sem.run_pure]
          · cases ha
        · cases ha
      · cases ha
    · cases ha
  · cases ha

/-- so many zeros -/
def zeros (z : Array Value) (n : Nat) : Array Value := (Array.range n).map (z[· % z.size]!)

theorem size_zeros (z : Array Value) (n : Nat) : (zeros z n).size = n := by simp [zeros]

theorem zeros_crel {f : Emb} {L : Nat} {z : Array Value} (h : z.all plain1 = true) (hz : 0 < z.size) (n : Nat) : CRel f L (zeros z n) (zeros z n) := by
  refine ⟨rfl, fun i => ?_⟩
  by_cases hi : i < n
  · have e : (zeros z n).getD i junk = z.getD (i % z.size) junk := by
      have hm : i % z.size < z.size := Nat.mod_lt _ hz
      simp [zeros, Array.getD, hi, hm]
    rw [e]
    have := getD_all h (i % z.size) (Nat.mod_lt _ hz)
    exact ⟨plain1_refl this, plain1_one this⟩
  · rw [getD_ge i (by simpa [zeros] using hi)]
    exact ⟨.junk _, rfl⟩

theorem plain_cells_all {z : Value} (h : plainB z = true) (hs : storable z = true) : (match z with | .agg cs => cs.all plain1 | .bool _ | .int _ _ | .string _ | .pointer none | .map none | .slice none _ _ | .nilFunc | .nilIface => true | _ => false) = true → z.cells.all plain1 = true := by
  intro hm
  cases z with
  | agg cs => exact h
  | pointer a => cases a <;> simp_all [Value.cells, plain1]
  | map a => cases a <;> simp_all [Value.cells, plain1]
  | slice a l c => cases a <;> simp_all [Value.cells, plain1]
  | _ => simp_all [Value.cells, plain1]

def zeroCellsOf (P : Program) (t : TypeId) : Option (Array Value) :=
  match P.info? t with
  | some i => match i.zero with
    | some z => if z.cells.all plain1 && decide (z.cells.size = i.size) && decide (0 < i.size) && (decide (i.size < tagN) && !isBld P t) then some z.cells else none
    | none => none
  | none => none

theorem zeroCellsOf_spec {P : Program} {t : TypeId} {zc : Array Value} (h : zeroCellsOf P t = some zc) : ∃ i z, P.info? t = some i ∧ i.zero = some z ∧ z.cells = zc ∧ zc.all plain1 = true ∧ zc.size = i.size ∧ 0 < i.size := by
  unfold zeroCellsOf at h
  split at h
  · rename_i i hi
    split at h
    · rename_i z hz
      split at h
      · rename_i hc
        simp only [Bool.and_eq_true, decide_eq_true_eq] at hc
        simp only [Option.some.injEq] at h
        subst h
        exact ⟨i, z, hi, hz, rfl, hc.1.1.1, hc.1.1.2, hc.1.2⟩
      · cases h
    · cases h
  · cases h
theorem zeroCellsOf_tag {P : Program} {t : TypeId} {zc : Array Value} (h : zeroCellsOf P t = some zc) : zc.size < tagN ∧ isBld P t = false := by
  unfold zeroCellsOf at h
  split at h
  · rename_i i hi
    split at h
    · rename_i z hz
      split at h
      · rename_i hc
        simp only [Bool.and_eq_true, decide_eq_true_eq, Bool.not_eq_true'] at hc
        simp only [Option.some.injEq] at h
        subst h
        exact ⟨by rw [hc.1.1.2]; exact hc.2.1, hc.2.2⟩
      · cases h
    · cases h
  · cases h

def abuildSlice (P : Program) (h : AH) (t : TypeId) (len : Nat) (parts : List (Nat × Value)) : Option (Value × AH) :=
  match P.underlying t with
  | some (.slice elem) => match zeroCellsOf P elem with
    | some zc => if len * zc.size ≤ 2 ^ 24 then
        match afill (fun i => some (i * zc.size, zc.size)) (zeros zc (len * zc.size)) parts with
        | some cells => some (.slice (some ⟨h.length, 0, none⟩) len len, h ++ [.cells cells zc.size true])
        | none => none
      else none
    | none => none
  | _ => none

theorem size_afill {place : Nat → Option (Nat × Nat)} (ps : List (Nat × Value)) : ∀ {c r : Array Value}, afill place c ps = some r → r.size = c.size := by
  induction ps with
  | nil => intro c r h; simp [afill] at h; subst h; rfl
  | cons p rest ih =>
    intro c r h
    obtain ⟨i, v⟩ := p
    simp only [afill] at h
    split at h
    · cases h
    · split at h
      · rw [ih h, size_blit]
      · cases h

theorem new_slice {f1 : Emb} {L : Nat} {I : Img} (h : f1 L = I) (ho : I.off = 0) (l c c' : Nat) (hc : CapRel I 0 c c') :
    VRel f1 (L + 1) (.slice (some ⟨L, 0, none⟩) l c) (.slice (some ⟨I.blk, 0, none⟩) l c') :=
  .slice L 0 l c c' _ _ (by omega) (by rw [h]) (by rw [h, ho]) (by rw [h]; exact hc)

theorem sound_buildSlice {P : Program} {f : Emb} {h : AH} {w : World} (hs : Sim P f h w) (t : TypeId) (len : Nat) {parts parts' : Array (Nat × Value)} (hp : PRel f h.length parts.toList parts'.toList)
    {r : Value} {h1 : AH} (ha : abuildSlice P h t len parts.toList = some (r, h1)) :
    ∃ f1 r' w1, (Instr.buildSlice t len parts').run P w = .ok r' w1 ∧ Step P f h w f1 h1 w1 ∧ VRel f1 h1.length r r' := by
  unfold abuildSlice at ha
  split at ha
  · rename_i elem hu
    split at ha
    · rename_i zc hzc
      obtain ⟨i, z, hi, hz, hzc', hall, hsz, hpos⟩ := zeroCellsOf_spec hzc
      split at ha
      · rename_i hle
        split at ha
        · rename_i cells hf
          simp only [Option.some.injEq, Prod.mk.injEq] at ha
          obtain ⟨rfl, rfl⟩ := ha
          obtain ⟨cells', h2, h3⟩ := fill_rel _ _ parts'.toList _ _ cells (zeros_crel (f := f) (L := h.length) hall (by omega) (len * zc.size)) hp hf
          have hcs : P.cellsOf elem = zc.size := by simp [Program.cellsOf, hi, hsz]
          have hsize : cells.size = len * zc.size := by rw [size_afill _ hf, size_zeros]
          have hst := Step.alloc hs (.cells cells zc.size true) (.cells cells' elem) ⟨w.heap.size, 0, cells.size, cells.size, zc.size⟩ rfl (cells_orel h3.1 h3.2 true (fun h => absurd h (by have := (zeroCellsOf_tag hzc).1; omega)))
          refine ⟨_, .slice (some ⟨w.heap.size, 0, none⟩) len len, _, ?_, hst, ?_⟩
          · have hn : ¬ (len * zc.size > 2 ^ 24) := by omega
            by_cases h0 : len * zc.size = 0
            · have e0 : (Array.range 0).map (fun x => (#[] : Array Value)[x % (#[] : Array Value).size]!) = zeros zc 0 := by simp [zeros]
              rw [h0] at h2
              rw [← e0] at h2
              have hn0 : ¬ ((0 : Nat) > 2 ^ 24) := by omega
              simp only [Instr.buildSlice, Sem.run_bind, run_underlying hu, Result.andThen_ok, run_sizeOf w hi, hcs, h0, hn0, if_false, if_true, Sem.run_pure, h2, newRow, run_newObj]
              rfl
            · have e1 : (Array.range (len * zc.size)).map (fun x => zc[x % zc.size]!) = zeros zc (len * zc.size) := rfl
              simp only [Instr.buildSlice, Sem.run_bind, run_underlying hu, Result.andThen_ok, run_sizeOf w hi, hcs, hn, if_false, h0, Sem.run_pure, run_zeroValue hi hz, hzc', e1, h2, newRow, run_newObj]
              rfl
          · have := new_slice (f1 := upd f h.length ⟨w.heap.size, 0, cells.size, cells.size, zc.size⟩) (L := h.length) (upd_eq _ _ _) rfl len len len (.inl rfl)
            simpa using this
        · cases ha
      · cases ha
    · cases ha
  · cases ha

end Go.Am
set_option linter.unusedVariables false
set_option linter.unusedSimpArgs false
/- Parts, addresses, slices. -/
namespace Go.Am
open Go

def apart (P : Program) (t : TypeId) (cs : Array Value) (off : Nat) : Option Value :=
  match P.underlying t, P.info? t with
  | some d, some i => if isAggD d then (if off + i.size ≤ cs.size then some (.agg (cs.extract off (off + i.size))) else none) else cs[off]?
  | _, _ => none

theorem getD_extract (c : Array Value) (o n i : Nat) (h : o + n ≤ c.size) : (c.extract o (o + n)).getD i junk = if i < n then c.getD (o + i) junk else junk := by
  by_cases hi : i < n
  · have h1 : o + i < c.size := by omega
    have h3 : i < min (o + n) c.size - o := by omega
    simp [Array.getD, h1, h3, hi]
  · rw [getD_ge i (by simp; omega), if_neg hi]

theorem sound_part {P : Program} {f : Emb} {L : Nat} (w : World) {t : TypeId} {cs ds : Array Value} (hc : CRel f L cs ds) {off : Nat} {r : Value} (ha : apart P t cs off = some r) :
    ∃ r', (part t ds off).run P w = .ok r' w ∧ VRel f L r r' := by
  unfold apart at ha
  split at ha
  · rename_i d i hu hi
    split at ha
    · rename_i hagg
      split at ha
      · rename_i hle
        simp only [Option.some.injEq] at ha
        subst ha
        refine ⟨.agg (ds.extract off (off + i.size)), ?_, ?_⟩
        · simp only [part, Sem.run_bind, run_isAgg hu, Result.andThen_ok, hagg, if_true, run_sizeOf w hi, Program.cellsOf, hi, Option.map_some, Option.getD_some, Sem.run_pure]
        · have hle' : off + i.size ≤ ds.size := hc.1 ▸ hle
          refine .agg _ _ (by simp; omega) (fun j => ?_) (fun j => ?_)
          · rw [getD_extract _ _ _ _ hle, getD_extract _ _ _ _ hle']
            split
            · exact (hc.2 _).1
            · exact .junk _
          · rw [getD_extract _ _ _ _ hle']
            split
            · exact (hc.2 _).2
            · rfl
      · cases ha
    · rename_i hagg
      simp only [Bool.not_eq_true] at hagg
      have hlt : off < cs.size := (Array.getElem?_eq_some_iff.1 ha).1
      have hlt' : off < ds.size := hc.1 ▸ hlt
      have he : cs.getD off junk = r := by have := (Array.getElem?_eq_some_iff.1 ha).2; simp [Array.getD, hlt, this]
      refine ⟨ds.getD off junk, ?_, he ▸ (hc.2 off).1⟩
      have : ds[off]? = some (ds.getD off junk) := by simp [Array.getD, hlt']
      simp only [part, Sem.run_bind, run_isAgg hu, Result.andThen_ok, hagg, Bool.false_eq_true, if_false, this, Sem.run_pure]
  · cases ha

theorem VRel.agg_inv {f : Emb} {L : Nat} {cs : Array Value} {v' : Value} (h : VRel f L (.agg cs) v') : ∃ ds, v' = .agg ds ∧ CRel f L cs ds := by
  generalize hv : Value.agg cs = v at h
  cases h with
  | agg xs ys hx hxy hone => cases hv; exact ⟨ys, rfl, hx, fun i => ⟨hxy i, hone i⟩⟩
  | junk => simp [Am.junk] at hv
  | _ => cases hv

theorem VRel.int_inv {f : Emb} {L : Nat} {k : IntKind} {n : Int} {v' : Value} (h : VRel f L (.int k n) v') : v' = .int k n := plain_inv rfl h
theorem VRel.bool_inv {f : Emb} {L : Nat} {b : Bool} {v' : Value} (h : VRel f L (.bool b) v') : v' = .bool b := plain_inv rfl h
theorem VRel.string_inv {f : Emb} {L : Nat} {s : ByteArray} {v' : Value} (h : VRel f L (.string s) v') : v' = .string s := plain_inv rfl h
theorem VRel.ptr_inv {f : Emb} {L : Nat} {b o : Nat} {v' : Value} (h : VRel f L (.pointer (some ⟨b, o, none⟩)) v') : v' = .pointer (some ⟨(f b).blk, (f b).off + o, none⟩) ∧ b < L := by
  generalize hv : Value.pointer (some ⟨b, o, none⟩) = v at h
  cases h with
  | ptr b' o' r o'' hb hr ho => cases hv; subst hr; subst ho; exact ⟨rfl, hb⟩
  | junk => simp [Am.junk] at hv
  | _ => cases hv
theorem VRel.tuple_inv {f : Emb} {L : Nat} {cs : Array Value} {v' : Value} (h : VRel f L (.tuple cs) v') : ∃ ds, v' = .tuple ds ∧ ARel f L cs ds := by
  generalize hv : Value.tuple cs = v at h
  cases h with
  | tuple xs ys hx hxy => cases hv; exact ⟨ys, rfl, hx, hxy⟩
  | junk => simp [Am.junk] at hv
  | _ => cases hv

def afield (P : Program) (t : TypeId) (x : Value) (k : Nat) : Option Value :=
  match P.underlying t, x with
  | some (.struct fields), .agg cs => match fields[k]? with
    | some fd => apart P fd.type cs fd.offset
    | none => none
  | _, _ => none

theorem sound_field {P : Program} {f : Emb} {L : Nat} (w : World) {t : TypeId} {x x' : Value} (hx : VRel f L x x') {k : Nat} {r : Value} (ha : afield P t x k = some r) :
    ∃ r', (Instr.field t x' k).run P w = .ok r' w ∧ VRel f L r r' := by
  unfold afield at ha
  split at ha
  · rename_i fields cs hu
    obtain ⟨ds, rfl, hc⟩ := hx.agg_inv
    split at ha
    · rename_i fd hfd
      obtain ⟨r', h1, h2⟩ := sound_part w hc ha
      exact ⟨r', by simp only [Instr.field, Sem.run_bind, run_underlying hu, Result.andThen_ok, hfd, asAgg, Sem.run_pure, h1], h2⟩
    · cases ha
  · cases ha

def aindex (P : Program) (t : TypeId) (x ix : Value) : Option Value :=
  match P.underlying t, x, ix with
  | some (.array n elem), .agg cs, .int _ i => match P.info? elem with
    | some ie => if 0 ≤ i ∧ i < n then apart P elem cs (i.toNat * ie.size) else none
    | none => none
  | some .string, .string s, .int _ i => if 0 ≤ i then (s[i.toNat]?).map (fun b => .int .u8 b.toNat) else none
  | _, _, _ => none

theorem sound_index {P : Program} {f : Emb} {L : Nat} (w : World) {t : TypeId} {x x' ix ix' : Value} (hx : VRel f L x x') (hi : VRel f L ix ix') {r : Value} (ha : aindex P t x ix = some r) :
    ∃ r', (Instr.index t x' ix').run P w = .ok r' w ∧ VRel f L r r' := by
  unfold aindex at ha
  split at ha
  · rename_i n elem cs k i hu
    cases hi.int_inv
    obtain ⟨ds, rfl, hc⟩ := hx.agg_inv
    split at ha
    · rename_i ie hie
      split at ha
      · rename_i hb
        obtain ⟨r', h1, h2⟩ := sound_part w hc ha
        have hsz : P.cellsOf elem = ie.size := by simp [Program.cellsOf, hie]
        refine ⟨r', ?_, h2⟩
        simp only [Instr.index, Sem.run_bind, asIntOf, Sem.run_pure, Result.andThen_ok, run_underlying hu, hb, and_self, if_true, run_sizeOf w hie, hsz, h1]
      · cases ha
    · cases ha
  · rename_i s k i hu
    cases hi.int_inv
    cases hx.string_inv
    split at ha
    · rename_i h0
      simp only [Option.map_eq_some_iff] at ha
      obtain ⟨b, hb, rfl⟩ := ha
      refine ⟨_, ?_, .int _ _⟩
      simp only [Instr.index, Sem.run_bind, asIntOf, Sem.run_pure, Result.andThen_ok, run_underlying hu, h0, if_true, hb]
    · cases ha
  · cases ha

def afieldAddr (P : Program) (t : TypeId) (x : Value) (k : Nat) : Option Value :=
  match P.underlying t, x with
  | some (.struct fields), .func (.yield 1) cs ks => match fields[k]?, fzN ks with
    | some fd, some j => match P.info? fd.type with
      | some i => if i.size = 0 then none else some (fp cs (j + fd.offset))
      | none => none
    | _, _ => none
  | some (.struct fields), .pointer (some ⟨b, o, none⟩) => match fields[k]? with
    | some fd => match P.info? fd.type with
      | some i => if i.size = 0 then none else some (.pointer (some ⟨b, o + fd.offset, none⟩))
      | none => none
    | none => none
  | _, _ => none

theorem VRel.fp_inv {f : Emb} {L : Nat} {cs ks : Array Value} {v' : Value} (h : VRel f L (.func (.yield 1) cs ks) v') : ∃ (k r o : Nat) (ds : Array Value), ks = #[.int .i64 k] ∧ v' = .pointer (some ⟨r, o + k, none⟩) ∧
    f.rom r = some ds ∧ o + cs.size ≤ ds.size ∧ (∀ i : Nat, VRel f L (cs.getD i Am.junk) (if i < cs.size then ds.getD (o + i) Am.junk else Am.junk)) ∧ ∀ i : Nat, i < cs.size → (ds.getD (o + i) Am.junk).oneCell' = true := by
  generalize hv : Value.func (.yield 1) cs ks = v at h
  cases h with
  | fp cs k r o o' ds hrom hle ho hxy hone => cases hv; subst ho; exact ⟨k, r, o, ds, rfl, rfl, hrom, hle, hxy, hone⟩
  | func fn xs ys cs ds hfn => cases hv; cases hfn
  | junk => simp [Am.junk] at hv
  | _ => cases hv

theorem VRel.fz_inv {f : Emb} {L : Nat} {cs ks : Array Value} {v' : Value} (h : VRel f L (.func (.yield 0) cs ks) v') : ∃ n : Nat, ks = #[.int .i64 n] ∧ ((∃ (r o c : Nat) (ds : Array Value), v' = .slice (some ⟨r, o, none⟩) n c ∧
    f.rom r = some ds ∧ o + cs.size ≤ ds.size ∧ n ≤ c ∧ (∀ i : Nat, VRel f L (cs.getD i Am.junk) (if i < cs.size then ds.getD (o + i) Am.junk else Am.junk)) ∧ ∀ i : Nat, i < cs.size → (ds.getD (o + i) Am.junk).oneCell' = true) ∨
    (n = 0 ∧ cs = #[] ∧ ∃ a c, v' = .slice (some a) 0 c)) := by
  generalize hv : Value.func (.yield 0) cs ks = v at h
  cases h with
  | fz cs n r o c ds hrom hle hn hxy hone => cases hv; exact ⟨n, rfl, .inl ⟨r, o, c, ds, rfl, hrom, hle, hn, hxy, hone⟩⟩
  | fz0 a c => cases hv; exact ⟨0, rfl, .inr ⟨rfl, rfl, a, c, rfl⟩⟩
  | func fn xs ys cs ds hfn => cases hv; cases hfn
  | junk => simp [Am.junk] at hv
  | _ => cases hv

theorem fzN_some {ks : Array Value} {n j : Nat} (h : ks = #[.int .i64 n]) (hj : fzN ks = some j) : j = n := by subst h; rw [fzN_lit] at hj; cases hj; rfl

theorem sound_fieldAddr {P : Program} {f : Emb} {L : Nat} (w : World) {t : TypeId} {x x' : Value} (hx : VRel f L x x') {k : Nat} {r : Value} (ha : afieldAddr P t x k = some r) :
    ∃ r', (Instr.fieldAt t x' k).run P w = .ok r' w ∧ VRel f L r r' := by
  unfold afieldAddr at ha
  split at ha
  · rename_i fields cs ks hu
    obtain ⟨k0, r0, o0, ds, rfl, rfl, hrom, hle, hxy, hone⟩ := hx.fp_inv
    rw [fzN_lit] at ha
    split at ha
    · rename_i fd j hfd hj
      cases hj
      split at ha
      · rename_i i hi
        split at ha
        · cases ha
        · rename_i hne
          simp only [Option.some.injEq] at ha
          subst ha
          have hsz : ¬ (P.cellsOf fd.type = 0) := by simpa [Program.cellsOf, hi] using hne
          refine ⟨.pointer (some ⟨r0, o0 + (k0 + fd.offset), none⟩), ?_, .fp cs _ r0 o0 _ ds hrom hle rfl hxy hone⟩
          simp only [Instr.fieldAt, Sem.run_bind, run_underlying hu, Result.andThen_ok, hfd, Instr.sureAddr, Sem.run_pure, fieldPlace, run_sizeOf w hi, hsz, if_false, addr_add, Nat.add_assoc]
      · cases ha
    · cases ha
  · rename_i fields b o hu
    obtain ⟨rfl, hb⟩ := hx.ptr_inv
    split at ha
    · rename_i fd hfd
      split at ha
      · rename_i i hi
        split at ha
        · cases ha
        · rename_i hne
          simp only [Option.some.injEq] at ha
          subst ha
          have hsz : ¬ (P.cellsOf fd.type = 0) := by simpa [Program.cellsOf, hi] using hne
          refine ⟨.pointer (some ⟨(f b).blk, (f b).off + (o + fd.offset), none⟩), ?_, .ptr b _ _ _ hb rfl rfl⟩
          simp only [Instr.fieldAt, Sem.run_bind, run_underlying hu, Result.andThen_ok, hfd, Instr.sureAddr, Sem.run_pure, fieldPlace, run_sizeOf w hi, hsz, if_false, addr_add, Nat.add_assoc]
      · cases ha
    · cases ha
  · cases ha

def aindexAddr (P : Program) (t : TypeId) (x ix : Value) : Option Value :=
  match P.underlying t, x, ix with
  | some (.array n elem), .func (.yield 1) cs ks, .int _ i => match P.info? elem, fzN ks with
    | some ie, some j => if 0 ≤ i ∧ i < n then some (fp cs (j + i.toNat * ie.size)) else none
    | _, _ => none
  | some (.slice elem), .func (.yield 0) cs ks, .int _ i => match P.info? elem, fzN ks with
    | some ie, some len => if 0 ≤ i ∧ i < len then some (fp cs (i.toNat * ie.size)) else none
    | _, _ => none
  | some (.array n elem), .pointer (some ⟨b, o, none⟩), .int _ i => match P.info? elem with
    | some ie => if 0 ≤ i ∧ i < n then some (.pointer (some ⟨b, o + i.toNat * ie.size, none⟩)) else none
    | none => none
  | some (.slice elem), .slice (some ⟨b, o, none⟩) len _, .int _ i => match P.info? elem with
    | some ie => if 0 ≤ i ∧ i < len then some (.pointer (some ⟨b, o + i.toNat * ie.size, none⟩)) else none
    | none => none
  | _, _, _ => none

theorem VRel.bnil_inv {f : Emb} {L : Nat} {xs ks : Array Value} {v' : Value} (h : VRel f L (.func (.yield 2) xs ks) v') : v' = .slice none 0 0 ∧ xs = #[] ∧ ks = #[] := by
  generalize hv : Value.func (.yield 2) xs ks = v at h
  cases h with
  | bnil => cases hv; exact ⟨rfl, rfl, rfl⟩
  | func fn xs ys cs ds hfn => cases hv; cases hfn
  | junk => simp [Am.junk] at hv
  | _ => cases hv

theorem VRel.slice_inv {f : Emb} {L : Nat} {b o l c : Nat} {v' : Value} (h : VRel f L (.slice (some ⟨b, o, none⟩) l c) v') :
    (∃ c', v' = .slice (some ⟨(f b).blk, (f b).off + o, none⟩) l c' ∧ b < L ∧ CapRel (f b) o c c') ∨ (l = 0 ∧ c = 0 ∧ ∃ a', v' = .slice (some a') 0 0 ∧ b < L) := by
  generalize hv : Value.slice (some ⟨b, o, none⟩) l c = v at h
  cases h with
  | slice b' o' l' c1 c' r o'' hb hr ho hc => cases hv; subst hr; subst ho; exact .inl ⟨c', rfl, hb, hc⟩
  | slice0 a a' hb => cases hv; exact .inr ⟨rfl, rfl, a', rfl, hb⟩
  | junk => simp [Am.junk] at hv
  | _ => cases hv

theorem sound_indexAddr {P : Program} {f : Emb} {L : Nat} (w : World) {t : TypeId} {x x' ix ix' : Value} (hx : VRel f L x x') (hi : VRel f L ix ix') {r : Value} (ha : aindexAddr P t x ix = some r) :
    ∃ r', (Instr.indexAt t x' ix').run P w = .ok r' w ∧ VRel f L r r' := by
  unfold aindexAddr at ha
  split at ha
  · rename_i n elem cs ks k i hu
    cases hi.int_inv
    obtain ⟨k0, r0, o0, ds, rfl, rfl, hrom, hle, hxy, hone⟩ := hx.fp_inv
    rw [fzN_lit] at ha
    split at ha
    · rename_i ie j hie hj
      cases hj
      split at ha
      · rename_i hbd
        simp only [Option.some.injEq] at ha
        subst ha
        have hsz : P.cellsOf elem = ie.size := by simp [Program.cellsOf, hie]
        refine ⟨.pointer (some ⟨r0, o0 + (k0 + i.toNat * ie.size), none⟩), ?_, .fp cs _ r0 o0 _ ds hrom hle rfl hxy hone⟩
        simp only [Instr.indexAt, Sem.run_bind, asIntOf, Sem.run_pure, Result.andThen_ok, run_underlying hu, Instr.sureAddr, hbd, and_self, if_true, run_sizeOf w hie, hsz, addr_add, Nat.add_assoc]
      · cases ha
    · cases ha
  · rename_i elem cs ks k i hu
    cases hi.int_inv
    obtain ⟨n0, rfl, hc⟩ := hx.fz_inv
    rw [fzN_lit] at ha
    split at ha
    · rename_i ie j hie hj
      cases hj
      split at ha
      · rename_i hbd
        simp only [Option.some.injEq] at ha
        subst ha
        rcases hc with ⟨r0, o0, c0, ds, rfl, hrom, hle, hn, hxy, hone⟩ | ⟨rfl, _⟩
        · have hsz : P.cellsOf elem = ie.size := by simp [Program.cellsOf, hie]
          refine ⟨.pointer (some ⟨r0, o0 + i.toNat * ie.size, none⟩), ?_, .fp cs _ r0 o0 _ ds hrom hle rfl hxy hone⟩
          simp only [Instr.indexAt, Sem.run_bind, asIntOf, Sem.run_pure, Result.andThen_ok, run_underlying hu, hbd, and_self, if_true, run_sizeOf w hie, hsz, addr_add, Nat.add_assoc]
        · omega
      · cases ha
    · cases ha
  · rename_i n elem b o k i hu
    cases hi.int_inv
    obtain ⟨rfl, hb⟩ := hx.ptr_inv
    split at ha
    · rename_i ie hie
      split at ha
      · rename_i hbd
        simp only [Option.some.injEq] at ha
        subst ha
        have hsz : P.cellsOf elem = ie.size := by simp [Program.cellsOf, hie]
        refine ⟨.pointer (some ⟨(f b).blk, (f b).off + (o + i.toNat * ie.size), none⟩), ?_, .ptr b _ _ _ hb rfl rfl⟩
        simp only [Instr.indexAt, Sem.run_bind, asIntOf, Sem.run_pure, Result.andThen_ok, run_underlying hu, Instr.sureAddr, hbd, and_self, if_true, run_sizeOf w hie, hsz, addr_add, Nat.add_assoc]
      · cases ha
    · cases ha
  · rename_i elem b o len cap k i hu
    cases hi.int_inv
    split at ha
    · rename_i ie hie
      split at ha
      · rename_i hbd
        simp only [Option.some.injEq] at ha
        subst ha
        rcases hx.slice_inv with ⟨c', rfl, hb, hc⟩ | ⟨rfl, rfl, a', rfl, hbL⟩
        · have hsz : P.cellsOf elem = ie.size := by simp [Program.cellsOf, hie]
          refine ⟨.pointer (some ⟨(f b).blk, (f b).off + (o + i.toNat * ie.size), none⟩), ?_, .ptr b _ _ _ hb rfl rfl⟩
          simp only [Instr.indexAt, Sem.run_bind, asIntOf, Sem.run_pure, Result.andThen_ok, run_underlying hu, hbd, and_self, if_true, run_sizeOf w hie, hsz, addr_add, Nat.add_assoc]
        · omega
      · cases ha
    · cases ha
  · cases ha

def aextract (x : Value) (k : Nat) : Option Value :=
  match x with
  | .tuple vs => vs[k]?
  | _ => none

theorem sound_extract {P : Program} {f : Emb} {L : Nat} (w : World) {x x' : Value} (hx : VRel f L x x') {k : Nat} {r : Value} (ha : aextract x k = some r) :
    ∃ r', (Instr.extract x' k).run P w = .ok r' w ∧ VRel f L r r' := by
  unfold aextract at ha
  split at ha
  · rename_i vs
    obtain ⟨ds, rfl, hr⟩ := hx.tuple_inv
    have hlt : k < vs.size := (Array.getElem?_eq_some_iff.1 ha).1
    have hlt' : k < ds.size := hr.1 ▸ hlt
    have he : vs.getD k junk = r := by have := (Array.getElem?_eq_some_iff.1 ha).2; simp [Array.getD, hlt, this]
    refine ⟨ds.getD k junk, ?_, he ▸ hr.2 k⟩
    have : ds[k]? = some (ds.getD k junk) := by simp [Array.getD, hlt']
    simp only [Instr.extract, this, Sem.run_pure]
  · cases ha

/-! ### slicing -/
def abound (v : Option Value) (d : Nat) (top : Nat) : Option Nat :=
  match v with
  | none => some d
  | some (.int _ i) => if 0 ≤ i ∧ i ≤ top then some i.toNat else none
  | _ => none

/-- low and high, in whatever they are bounded by -/
def abounds (len cap : Nat) (lo hi : Option Value) : Option (Nat × Nat) :=
  match abound hi len cap with
  | some h => match abound lo 0 h with
    | some l => some (l, h)
    | none => none
  | none => none

def OptRel (f : Emb) (L : Nat) : Option Value → Option Value → Prop
  | none, none => True
  | some v, some v' => VRel f L v v'
  | _, _ => False

theorem run_bounds {P : Program} {f : Emb} {L : Nat} (w : World) (isSl : Bool) {len cap cap' : Nat} (hcc : cap ≤ cap') (hlc : len ≤ cap') {lo hi lo' hi' : Option Value} (hl : OptRel f L lo lo') (hh : OptRel f L hi hi')
    {l h : Nat} (ha : abounds len cap lo hi = some (l, h)) : (Instr.sliceBounds isSl len cap' lo' hi' none).run P w = .ok (l, h, cap') w ∧ l ≤ h ∧ (h ≤ cap ∨ (h = len ∧ hi = none)) := by
  unfold abounds at ha
  split at ha
  · rename_i h1 hh1
    split at ha
    · rename_i l1 hl1
      simp only [Option.some.injEq, Prod.mk.injEq] at ha
      obtain ⟨rfl, rfl⟩ := ha
      have hlow : (match lo' with | some v => Instr.sliceBound v h1 (if (none : Option Value).isSome then .slice3C else .sliceB) | none => pure 0 : Sem Nat).run P w = .ok l1 w ∧ l1 ≤ h1 := by
        cases lo <;> cases lo' <;> simp only [OptRel] at hl
        · simp only [abound, Option.some.injEq] at hl1; subst hl1; exact ⟨rfl, Nat.zero_le _⟩
        · rename_i v v'
          simp only [abound] at hl1
          split at hl1
          · simp at *
          · rename_i v0 kk i he
            simp only [Option.some.injEq] at he
            subst he
            split at hl1
            · rename_i hb
              simp only [Option.some.injEq] at hl1
              subst hl1
              cases hl.int_inv
              refine ⟨?_, by omega⟩
              simp only [Instr.sliceBound, Sem.run_bind, asIntOf, Sem.run_pure, Result.andThen_ok, hb, and_self, if_true]
            · cases hl1
          · cases hl1
      have hhigh : (match hi', (none : Option Value) with
          | some v, some _ => Instr.sliceBound v cap' .slice3B
          | some v, none => Instr.sliceBound v cap' (if isSl then .sliceAcap else .sliceAlen)
          | none, none => pure len
          | none, some _ => stuck "Slice: max without high" : Sem Nat).run P w = .ok h1 w ∧ (h1 ≤ cap ∨ (h1 = len ∧ hi = none)) := by
        cases hi <;> cases hi' <;> simp only [OptRel] at hh
        · simp only [abound, Option.some.injEq] at hh1; subst hh1; exact ⟨rfl, .inr ⟨rfl, rfl⟩⟩
        · rename_i v v'
          simp only [abound] at hh1
          split at hh1
          · simp at *
          · rename_i v0 kk i he
            simp only [Option.some.injEq] at he
            subst he
            split at hh1
            · rename_i hb
              simp only [Option.some.injEq] at hh1
              subst hh1
              cases hh.int_inv
              have hb' : 0 ≤ i ∧ i ≤ (cap' : Int) := by omega
              refine ⟨?_, .inl (by omega)⟩
              simp only [Instr.sliceBound, Sem.run_bind, asIntOf, Sem.run_pure, Result.andThen_ok, hb', and_self, if_true]
            · cases hh1
          · cases hh1
      refine ⟨?_, hlow.2, hhigh.2⟩
      have e1 := hlow.1
      have e2 := hhigh.1
      simp only [Instr.sliceBounds, Sem.run_bind, Sem.run_pure, Result.andThen_ok]
      cases hi' <;> cases lo' <;> simp_all
    · cases ha
  · cases ha

/-- a slice of a slice: the row's element size is the heap's -/
def asliceS (h : AH) (size : Nat) (b o len cap : Nat) (lo hi : Option Value) : Option Value :=
  match h[b]? with
  | some (.cells _ es _) => if (es = 0 ∨ es = size) ∧ es < tagN then
      match abounds len cap lo hi with
      | some (l, hh) => if hh ≤ cap ∧ len ≤ cap then some (.slice (some ⟨b, o + l * size, none⟩) (hh - l) (cap - l)) else none
      | none => none
    else none
  | _ => none

def aslice (P : Program) (h : AH) (t : TypeId) (x : Value) (lo hi : Option Value) : Option Value :=
  match P.underlying t, x with
  | some (.slice elem), .func (.yield 0) cs ks => match P.info? elem, fzN ks with
    | some ie, some len => match abounds len len lo hi with
      | some (l, hh) => if hh * ie.size ≤ cs.size then some (fz (cs.extract (l * ie.size) (hh * ie.size)) (hh - l)) else none
      | none => none
    | _, _ => none
  | some (.array n elem), .func (.yield 1) cs ks => match P.info? elem, fzN ks with
    | some ie, some j => match abounds n n lo hi with
      | some (l, hh) => if l = n ∨ cs.size < j + hh * ie.size then none else some (fz (cs.extract (j + l * ie.size) (j + hh * ie.size)) (hh - l))
      | none => none
    | _, _ => none
  | some (.slice elem), .slice (some ⟨b, o, none⟩) len cap => match P.info? elem with
    | some ie => asliceS h ie.size b o len cap lo hi
    | none => none
  | some (.slice elem), .slice none 0 0 => match abounds 0 0 lo hi, P.info? elem with
    | some _, some _ => some (.slice none 0 0)
    | _, _ => none
  | some .string, .string s => match abounds s.size s.size lo hi with
    | some (l, hh) => some (.string (s.extract l hh))
    | none => none
  | some (.array n elem), .pointer (some ⟨b, o, none⟩) => match P.info? elem with
    | some ie => match abounds n n lo hi with
      | some (l, hh) => if l = n then none else some (.slice (some ⟨b, o + l * ie.size, none⟩) (hh - l) (n - l))
      | none => none
    | none => none
  | _, _ => none

theorem addr_add' (a : Addr) (h : a.spot = none) (j : Nat) : a.add j = ⟨a.block, a.off + j, none⟩ := by
  obtain ⟨b, o, s⟩ := a
  simp only at h
  subst h
  exact addr_add b o j

theorem sound_slice {P : Program} {f : Emb} {h : AH} {w : World} (hs : Sim P f h w) {t : TypeId} {x x' : Value} (hx : VRel f h.length x x') {lo hi lo' hi' : Option Value} (hl : OptRel f h.length lo lo') (hh : OptRel f h.length hi hi')
    {r : Value} (ha : aslice P h t x lo hi = some r) : ∃ r', (Instr.sliceAt t x' lo' hi' none).run P w = .ok r' w ∧ VRel f h.length r r' := by
  unfold aslice at ha
  split at ha
  · rename_i elem cs ks hu
    obtain ⟨n0, rfl, hcz⟩ := hx.fz_inv
    rw [fzN_lit] at ha
    split at ha
    case h_2 => cases ha
    rename_i ie j hie hj
    cases hj
    split at ha
    case h_2 => cases ha
    rename_i l h1 hbd
    split at ha
    case isFalse => cases ha
    rename_i hle1
    simp only [Option.some.injEq] at ha
    subst ha
    have hsz : P.cellsOf elem = ie.size := by simp [Program.cellsOf, hie]
    have hrun : ∀ (base : Option Addr) (cap' : Nat), n0 ≤ cap' → (Instr.sliceAt t (.slice base n0 cap') lo' hi' none).run P w =
        .ok (.slice (if cap' = l then base else base.map (·.add (l * ie.size))) (h1 - l) (cap' - l)) w ∧ l ≤ h1 ∧ h1 ≤ n0 := by
      intro base cap' hlc
      obtain ⟨e1, e2, e3⟩ := run_bounds (P := P) w true hlc hlc hl hh hbd
      refine ⟨?_, e2, by omega⟩
      simp only [Instr.sliceAt, Instr.slice, Sem.run_bind, run_underlying hu, Result.andThen_ok, e1, run_sizeOf w hie, hsz, Sem.run_pure]
    rcases hcz with ⟨r0, o0, c0, ds, rfl, hrom, hle, hn, hxy, hone⟩ | ⟨rfl, rfl, a, c0, rfl⟩
    · obtain ⟨e1, e2, e3⟩ := hrun (some ⟨r0, o0, none⟩) c0 hn
      refine ⟨_, e1, ?_⟩
      have hlh : l * ie.size ≤ h1 * ie.size := Nat.mul_le_mul_right _ e2
      by_cases hz : c0 = l
      · have : h1 - l = 0 := by omega
        have e : h1 * ie.size = l * ie.size := by rw [show h1 = l by omega]
        rw [if_pos hz, this, e]
        have hx0 : cs.extract (l * ie.size) (l * ie.size) = #[] := by simp; omega
        rw [hx0]
        exact .fz0 _ _
      · rw [if_neg hz]
        simp only [Option.map_some, addr_add]
        refine .fz _ _ _ _ _ ds hrom (by simp; omega) (by omega) (fun i => ?_) (fun i hi => ?_)
        · by_cases hi : i < (cs.extract (l * ie.size) (h1 * ie.size)).size
          · rw [if_pos hi]
            have hi2 : l * ie.size + i < cs.size := by simp at hi; omega
            have e3 : (cs.extract (l * ie.size) (h1 * ie.size)).getD i junk = cs.getD (l * ie.size + i) junk := by
              have hi3 : i < min (h1 * ie.size) cs.size - l * ie.size := by simpa using hi
              simp [Array.getD, hi2, hi3]
            have := hxy (l * ie.size + i)
            rw [if_pos hi2] at this
            rw [e3, Nat.add_assoc]
            exact this
          · rw [getD_ge i hi]; exact .junk _
        · have hi2 : l * ie.size + i < cs.size := by simp at hi; omega
          rw [Nat.add_assoc]
          exact hone _ hi2
    · obtain ⟨e1, e2, e3⟩ := hrun (some a) c0 (Nat.zero_le _)
      refine ⟨_, e1, ?_⟩
      have h0 : l = 0 := by omega
      have h10 : h1 = 0 := by omega
      subst h0; subst h10
      have hx0 : (#[] : Array Value).extract (0 * ie.size) (0 * ie.size) = #[] := by simp
      rw [hx0]
      split
      · exact .fz0 _ _
      · exact .fz0 _ _
  · rename_i n elem cs ks hu
    obtain ⟨k0, r0, o0, ds, rfl, rfl, hrom, hle, hxy, hone⟩ := hx.fp_inv
    rw [fzN_lit] at ha
    split at ha
    case h_2 => cases ha
    rename_i ie j hie hj
    cases hj
    split at ha
    case h_2 => cases ha
    rename_i l h1 hbd
    split at ha
    case isTrue => cases ha
    rename_i hle1
    simp only [Option.some.injEq] at ha
    subst ha
    have hsz : P.cellsOf elem = ie.size := by simp [Program.cellsOf, hie]
    obtain ⟨e1, e2, e3⟩ := run_bounds (P := P) w false (Nat.le_refl n) (Nat.le_refl n) hl hh hbd
    have hnl : ¬ n = l := by omega
    refine ⟨.slice (some ⟨r0, o0 + (k0 + l * ie.size), none⟩) (h1 - l) (n - l), ?_, ?_⟩
    · simp only [Instr.sliceAt, Instr.slice, Sem.run_bind, run_underlying hu, Result.andThen_ok, e1, run_sizeOf w hie, hsz, Sem.run_pure, Instr.sureAddr, hnl, if_false, Option.map_some, addr_add, Nat.add_assoc]
    · have hlh : l * ie.size ≤ h1 * ie.size := Nat.mul_le_mul_right _ e2
      refine .fz _ _ _ _ _ ds hrom (by simp; omega) (by omega) (fun i => ?_) (fun i hi => ?_)
      · by_cases hi : i < (cs.extract (k0 + l * ie.size) (k0 + h1 * ie.size)).size
        · rw [if_pos hi]
          have hi2 : k0 + l * ie.size + i < cs.size := by simp at hi; omega
          have e3 : (cs.extract (k0 + l * ie.size) (k0 + h1 * ie.size)).getD i junk = cs.getD (k0 + l * ie.size + i) junk := by
            have hi3 : i < min (k0 + h1 * ie.size) cs.size - (k0 + l * ie.size) := by simpa using hi
            simp [Array.getD, hi2, hi3]
          have := hxy (k0 + l * ie.size + i)
          rw [if_pos hi2] at this
          have e4 : o0 + (k0 + l * ie.size) + i = o0 + (k0 + l * ie.size + i) := by omega
          rw [e3, e4]
          exact this
        · rw [getD_ge i hi]; exact .junk _
      · have hi2 : k0 + l * ie.size + i < cs.size := by simp at hi; omega
        rw [Nat.add_assoc]
        exact hone _ hi2
  · rename_i elem b o len cap hu
    split at ha
    · rename_i ie hie
      unfold asliceS at ha
      split at ha
      · rename_i c es rw hb
        split at ha
        · rename_i hes
          obtain ⟨hes, hest⟩ := hes
          split at ha
          · rename_i l h1 hbd
            split at ha
            · rename_i hcap
              simp only [Option.some.injEq] at ha
              subst ha
              have hsz : P.cellsOf elem = ie.size := by simp [Program.cellsOf, hie]
              obtain ⟨o', ho', c', elem', fr, rfl, g2, g3, g4, g5, g6, g7⟩ := hs.obj b _ hb rfl
              have hrun : ∀ (base : Option Addr) (cap' : Nat), cap ≤ cap' → len ≤ cap' → (Instr.sliceAt t (.slice base len cap') lo' hi' none).run P w =
                  .ok (.slice (if cap' = l then base else base.map (·.add (l * ie.size))) (h1 - l) (cap' - l)) w ∧ l ≤ h1 := by
                intro base cap' hc hlc
                obtain ⟨e1, e2, e3⟩ := run_bounds (P := P) w true hc hlc hl hh hbd
                refine ⟨?_, e2⟩
                simp only [Instr.sliceAt, Instr.slice, Sem.run_bind, run_underlying hu, Result.andThen_ok, e1, run_sizeOf w hie, hsz, Sem.run_pure]
              rcases hx.slice_inv with ⟨cap', rfl, hbL, hc⟩ | ⟨rfl, rfl, a', rfl, hbL⟩
              · have hcc : cap ≤ cap' := hc.le
                have hlen : len ≤ cap' := by omega
                obtain ⟨e1, e2⟩ := hrun (some ⟨(f b).blk, (f b).off + o, none⟩) cap' hcc hlen
                refine ⟨_, e1, ?_⟩
                by_cases hz : cap' = l
                · have h1l : h1 - l = 0 := by omega
                  have hcl : cap - l = 0 := by omega
                  have hcl' : cap' - l = 0 := by omega
                  rw [if_pos hz, h1l, hcl, hcl']
                  exact .slice0 _ _ hbL
                · rw [if_neg hz]
                  simp only [Option.map_some, addr_add]
                  refine .slice b _ _ _ _ _ _ hbL rfl (by omega) ?_
                  rcases hc with rfl | ⟨k1, k2, k3, k4⟩
                  · exact .inl rfl
                  · refine .inr ⟨k1, ?_, ?_, by omega⟩
                    · have hes' : szOf (f b).es = ie.size := by
                        rw [← g3, szOf_lt hest] at k1 ⊢
                        rcases hes with hes | hes <;> omega
                      rw [hes'] at k2 ⊢
                      have : (cap - l) * ie.size = cap * ie.size - l * ie.size := Nat.sub_mul ..
                      have : l * ie.size ≤ cap * ie.size := Nat.mul_le_mul_right _ (by omega)
                      omega
                    · have hes' : szOf (f b).es = ie.size := by
                        rw [← g3, szOf_lt hest] at k1 ⊢
                        rcases hes with hes | hes <;> omega
                      rw [hes'] at k3 ⊢
                      have : (cap' - l) * ie.size = cap' * ie.size - l * ie.size := Nat.sub_mul ..
                      have : l * ie.size ≤ cap' * ie.size := Nat.mul_le_mul_right _ (by omega)
                      omega
              · obtain ⟨e1, e2⟩ := hrun (some a') 0 (Nat.le_refl _) (Nat.le_refl _)
                refine ⟨_, e1, ?_⟩
                have : l = 0 := by omega
                subst this
                have : h1 = 0 := by omega
                subst this
                simp only [if_true, Nat.sub_self]
                exact .slice0 _ _ hbL
            · cases ha
          · cases ha
        · cases ha
      · cases ha
    · cases ha
  · rename_i elem hu
    split at ha
    · rename_i lh ie hbd hie
      obtain ⟨l, h1⟩ := lh
      simp only [Option.some.injEq] at ha
      subst ha
      have hx' : x' = .slice none 0 0 := plain_inv rfl hx
      subst hx'
      obtain ⟨e1, e2, e3⟩ := run_bounds (P := P) w true (Nat.le_refl 0) (Nat.le_refl 0) hl hh hbd
      have hh0 : h1 = 0 := by omega
      have hl0 : l = 0 := by omega
      subst hh0; subst hl0
      refine ⟨.slice none 0 0, ?_, .nilSlice 0 0⟩
      simp only [Instr.sliceAt, Instr.slice, Sem.run_bind, run_underlying hu, Result.andThen_ok, e1, run_sizeOf w hie, Sem.run_pure, if_true, Nat.sub_self]
    · cases ha
  · rename_i s hu
    split at ha
    · rename_i l h1 hbd
      simp only [Option.some.injEq] at ha
      subst ha
      cases hx.string_inv
      obtain ⟨e1, e2, e3⟩ := run_bounds (P := P) w false (Nat.le_refl s.size) (Nat.le_refl s.size) hl hh hbd
      refine ⟨_, ?_, .string _⟩
      simp only [Instr.sliceAt, Instr.slice, Sem.run_bind, run_underlying hu, Result.andThen_ok, e1, Option.isSome_none, Bool.false_eq_true, if_false, Sem.run_pure]
    · cases ha
  · rename_i n elem b o hu
    split at ha
    · rename_i ie hie
      split at ha
      · rename_i l h1 hbd
        split at ha
        · cases ha
        · rename_i hne
          simp only [Option.some.injEq] at ha
          subst ha
          obtain ⟨rfl, hb⟩ := hx.ptr_inv
          obtain ⟨e1, e2, e3⟩ := run_bounds (P := P) w false (Nat.le_refl n) (Nat.le_refl n) hl hh hbd
          have hsz : P.cellsOf elem = ie.size := by simp [Program.cellsOf, hie]
          refine ⟨.slice (some ⟨(f b).blk, (f b).off + o + l * ie.size, none⟩) (h1 - l) (n - l), ?_, .slice b _ _ _ _ _ _ hb rfl (by omega) (.inl rfl)⟩
          simp only [Instr.sliceAt, Sem.run_bind, run_underlying hu, Result.andThen_ok, Instr.sureAddr, Sem.run_pure, e1, run_sizeOf w hie, hsz, addr_add, if_neg (fun e => hne (Eq.symm e))]
      · cases ha
    · cases ha
  · cases ha

end Go.Am
