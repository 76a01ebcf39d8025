import Derived.Test.YtogefnepdjkioaaAm2
set_option linter.unusedVariables false
set_option linter.unusedSimpArgs false
/- Writing and making. -/
namespace Go.Am
open Go

def blit (c : Array Value) (o : Nat) : List Value → Array Value
  | [] => c
  | v :: r => blit (c.setIfInBounds o v) (o + 1) r

theorem size_blit (c : Array Value) (o : Nat) (vs : List Value) : (blit c o vs).size = c.size := by
  induction vs generalizing c o with
  | nil => rfl
  | cons v r ih => simp [blit, ih]

def storable : Value → Bool
  | .tuple _ => false
  | .chan _ => false
  | _ => true

theorem storable_cells {f : Emb} {L : Nat} {v v' : Value} (h : storable v = true) (r : VRel f L v v') :
    v.cells.size = v'.cells.size ∧ ∀ i : Nat, VRel f L (v.cells.getD i junk) (v'.cells.getD i junk) ∧ (v'.cells.getD i junk).oneCell' = true := by
  have one : ∀ (x y : Value), VRel f L x y → y.oneCell' = true → x.cells = #[x] → y.cells = #[y] →
      x.cells.size = y.cells.size ∧ ∀ i : Nat, VRel f L (x.cells.getD i junk) (y.cells.getD i junk) ∧ (y.cells.getD i junk).oneCell' = true := by
    intro x y hxy ho hx hy
    rw [hx, hy]
    refine ⟨rfl, fun i => ?_⟩
    cases i with
    | zero => exact ⟨hxy, ho⟩
    | succ i => simp [Array.getD]; exact ⟨.junk _, rfl⟩
  cases r with
  | junk => simp [storable, junk] at h
  | tuple => simp [storable] at h
  | agg xs ys hx hxy hone => exact ⟨hx, fun i => ⟨hxy i, hone i⟩⟩
  | bool b => exact one _ _ (.bool b) rfl rfl rfl
  | int k n => exact one _ _ (.int k n) rfl rfl rfl
  | string s => exact one _ _ (.string s) rfl rfl rfl
  | nilFunc => exact one _ _ .nilFunc rfl rfl rfl
  | nilIface => exact one _ _ .nilIface rfl rfl rfl
  | nilPtr => exact one _ _ .nilPtr rfl rfl rfl
  | ptr b o r o' hb hr ho => exact one _ _ (.ptr b o r o' hb hr ho) rfl rfl rfl
  | nilMap => exact one _ _ .nilMap rfl rfl rfl
  | map b r hb hr => exact one _ _ (.map b r hb hr) rfl rfl rfl
  | nilSlice l c => exact one _ _ (.nilSlice l c) rfl rfl rfl
  | slice b o l c c' r o' hb hr ho hc => exact one _ _ (.slice b o l c c' r o' hb hr ho hc) rfl rfl rfl
  | slice0 a a' hb => exact one _ _ (.slice0 a a' hb) rfl rfl rfl
  | func fn xs ys cs ds hfn hx hxy hc hcd => exact one _ _ (.func fn xs ys cs ds hfn hx hxy hc hcd) rfl rfl rfl
  | iface t v v' hv => exact one _ _ (.iface t v v' hv) rfl rfl rfl
  | fz cs n r o c ds hrom hle hn hxy hone => exact one _ _ (.fz cs n r o c ds hrom hle hn hxy hone) rfl rfl rfl
  | fz0 a c => exact one _ _ (.fz0 a c) rfl rfl rfl
  | fp cs k r o o' ds hrom hle ho hxy hone => exact one _ _ (.fp cs k r o o' ds hrom hle ho hxy hone) rfl rfl rfl

theorem setCell_heap {w : World} {r : Nat} {c : Array Value} {t : TypeId} {fr : Nat × Nat} (h : w.heap[r]? = some (.cells c t fr)) (o : Nat) (v : Value) :
    (w.setCell ⟨r, o, none⟩ v).heap[r]? = some (.cells (c.setIfInBounds o v) t fr) ∧ (∀ r', r' ≠ r → (w.setCell ⟨r, o, none⟩ v).heap[r']? = w.heap[r']?) := by
  constructor
  · simp [World.setCell, Array.getElem?_modify, h]
  · intro r' hr'
    simp only [World.setCell, Array.getElem?_modify]
    rw [if_neg (fun e => hr' e.symm)]

theorem setCells_heap (vs : List Value) : ∀ {w : World} {r : Nat} {c : Array Value} {t : TypeId} {fr : Nat × Nat}, w.heap[r]? = some (.cells c t fr) → ∀ (o : Nat),
    (w.setCells r o vs).heap[r]? = some (.cells (blit c o vs) t fr) ∧ (∀ r', r' ≠ r → (w.setCells r o vs).heap[r']? = w.heap[r']?) ∧
      (w.setCells r o vs).os = w.os ∧ (w.setCells r o vs).tape = w.tape ∧ (w.setCells r o vs).output = w.output ∧ (w.setCells r o vs).heap.size = w.heap.size := by
  induction vs with
  | nil => intro w r c t fr h o; exact ⟨h, fun _ _ => rfl, rfl, rfl, rfl, rfl⟩
  | cons v rest ih =>
    intro w r c t fr h o
    obtain ⟨h1, h2⟩ := setCell_heap h o v
    obtain ⟨h3, h4, h5, h6, h7, h8⟩ := ih h1 (o + 1)
    refine ⟨h3, fun r' hr' => (h4 r' hr').trans (h2 r' hr'), h5, h6, h7, ?_⟩
    show ((w.setCell ⟨r, o, none⟩ v).setCells r (o + 1) rest).heap.size = _
    rw [h8]; simp

theorem ORel.set {f : Emb} {L : Nat} {I : Img} {c c' : Array Value} {es : Nat} {elem : TypeId} {fr : Nat × Nat} (h : ORel f L I (.cells c es true) (.cells c' elem fr)) {o : Nat} (ho : o < c.size)
    {v v' : Value} (hv : VRel f L v v') (h1 : v'.oneCell' = true) : ORel f L I (.cells (c.setIfInBounds o v) es true) (.cells (c'.setIfInBounds (I.off + o) v') elem fr) := by
  obtain ⟨c'', elem', fr', he, h2, h3, h4, h5, h6, h7⟩ := h
  cases he
  refine ⟨_, _, _, rfl, by simpa using h2, h3, h4, by simpa using h5, by simpa using h6, fun i hi => ?_⟩
  have hi' : i < c.size := by simpa using hi
  by_cases e : o = i
  · subst e
    have hlt : I.off + o < c'.size := by omega
    simp [Array.getD, hi', hlt]
    exact ⟨hv, h1⟩
  · have h8 := h7 i hi'
    simp only [Array.getD_eq_getD_getElem?] at h8 ⊢
    rw [Array.getElem?_setIfInBounds_ne e, Array.getElem?_setIfInBounds_ne (by omega)]
    exact h8

theorem ORel.blit {f : Emb} {L : Nat} {I : Img} {es : Nat} {elem : TypeId} {fr : Nat × Nat} (vs : List Value) : ∀ (vs' : List Value) (c c' : Array Value) (o : Nat),
    ORel f L I (.cells c es true) (.cells c' elem fr) → vs.length = vs'.length → o + vs.length ≤ c.size → (∀ i : Nat, VRel f L (vs.getD i junk) (vs'.getD i junk) ∧ (vs'.getD i junk).oneCell' = true) →
    ORel f L I (.cells (blit c o vs) es true) (.cells (Am.blit c' (I.off + o) vs') elem fr) := by
  induction vs with
  | nil =>
    intro vs' c c' o h hl _ _
    cases vs' with
    | nil => exact h
    | cons => simp at hl
  | cons v r ih =>
    intro vs' c c' o h hl ho hv
    cases vs' with
    | nil => simp at hl
    | cons v' r' =>
      simp only [List.length_cons] at hl ho
      have h0 := hv 0
      have h1 := h.set (o := o) (by omega) h0.1 h0.2
      have := ih r' _ _ (o + 1) h1 (by omega) (by simp; omega) (fun i => by simpa using hv (i + 1))
      simpa [Am.blit, Nat.add_assoc] using this

/-- writing cells, whatever they are -/
theorem sound_storeCells {P : Program} {f : Emb} {h : AH} {w : World} (hs : Sim P f h w) {b es : Nat} {c : Array Value} (hb : h[b]? = some (.cells c es true)) {o : Nat} {vs vs' : List Value}
    (hl : vs.length = vs'.length) (ho : o + vs.length ≤ c.size) (hv : ∀ i : Nat, VRel f h.length (vs.getD i junk) (vs'.getD i junk) ∧ (vs'.getD i junk).oneCell' = true) :
    ∃ w1, (storeCells ⟨(f b).blk, (f b).off + o, none⟩ vs').run P w = .ok () w1 ∧ Step P f h w f (h.set b (.cells (blit c o vs) es true)) w1 := by
  obtain ⟨o', ho', hrel⟩ := hs.obj b _ hb rfl
  have hrel0 := hrel
  obtain ⟨c', elem, fr, rfl, h2, h3, h4, h5, h6, h7⟩ := hrel
  obtain ⟨hN, hfr⟩ := h5 rfl
  have hlen : ∀ j, j < vs'.length → (f b).off + o + j < c'.size := fun j hj => by omega
  have hrun := run_storeCells_cells (P := P) (f b).blk ((f b).off + o) vs' 0 w
    (fun j hj => by rw [cell_of_block ho']; simp [hlen j hj])
    (fun j hj => by
      simp only [World.frozen?, ho']
      exact hfr _ (by simpa using hlen j hj))
    (fun v hv' => by
      obtain ⟨i, hi⟩ := List.mem_iff_getElem?.1 hv'
      have := (hv i).2
      simpa [List.getD, hi] using this)
  obtain ⟨g1, g2, g3, g4, g5, g6⟩ := setCells_heap vs' ho' ((f b).off + o + 0)
  refine ⟨_, hrun, Step.write hs hb rfl rfl ok_cells g1 ?_ g2 g3 g4 g5 g6⟩
  exact ORel.blit vs vs' c c' o hrel0 hl ho hv

def astore (P : Program) (h : AH) (t : TypeId) (av v : Value) : Option AH :=
  match av with
  | .pointer (some ⟨b, o, none⟩) =>
    match h[b]? with
    | some (.cells c es true) =>
      match P.info? t with
      | some i => if storable v = true ∧ v.cells.size = i.size ∧ o + v.cells.size ≤ c.size then some (h.set b (.cells (blit c o v.cells.toList) es true)) else none
      | none => none
    | _ => none
  | _ => none

theorem sound_store {P : Program} {f : Emb} {h h1 : AH} {w : World} (hs : Sim P f h w) {t : TypeId} {p p' v v' : Value} (hp : VRel f h.length p p') (hv : VRel f h.length v v')
    (ha : astore P h t p v = some h1) : ∃ w1, (Instr.storeAt t p' v').run P w = .ok () w1 ∧ Step P f h w f h1 w1 := by
  cases hp with
  | ptr b o r' o' hb hr ho =>
    subst hr; subst ho
    simp only [astore] at ha
    split at ha
    · rename_i c es hb'
      split at ha
      · rename_i i hi
        split at ha
        · rename_i hcond
          obtain ⟨h2, h3, h4⟩ := hcond
          simp only [Option.some.injEq] at ha
          subst ha
          obtain ⟨h5, h6⟩ := storable_cells h2 hv
          obtain ⟨w1, h7, h8⟩ := sound_storeCells hs hb' (o := o) (vs := v.cells.toList) (vs' := v'.cells.toList) (by simpa using h5) (by simpa using h4) (fun j => by
            have := h6 j
            simpa [Array.getD_eq_getD_getElem?, List.getD] using this)
          refine ⟨w1, ?_, h8⟩
          have hsz : ¬ (v'.cells.size ≠ P.cellsOf t) := by simp [Program.cellsOf, hi]; omega
          simp only [Instr.storeAt, Instr.sureAddr, Sem.run_bind, Sem.run_pure, Result.andThen_ok, storeVar, run_sizeOf w hi, hsz, if_false, h7]
        · cases ha
      · cases ha
    · cases ha
  | _ => simp [astore, junk] at ha

/-! ### making -/
theorem cells_orel {f : Emb} {L : Nat} {c c' : Array Value} {es : Nat} {elem : TypeId} {r : Nat} (hsz : c.size = c'.size)
    (hr : ∀ i : Nat, VRel f L (c.getD i junk) (c'.getD i junk) ∧ (c'.getD i junk).oneCell' = true) (rw : Bool) :
    ORel f L ⟨r, 0, c.size, c.size, es⟩ (.cells c es rw) (.cells c' elem (0, 0)) :=
  ⟨c', elem, (0, 0), rfl, rfl, rfl, by simp, fun _ => ⟨by simp [hsz], fun i _ => by simp⟩, by simp [hsz], fun i _ => by simpa using hr i⟩

theorem sound_newVar {P : Program} {f : Emb} {h : AH} {w : World} (hs : Sim P f h w) (t : TypeId) (es : Nat) {v v' : Value} (hv : VRel f h.length v v') (hst : storable v = true) :
    ∃ f1 w1, (newVar t v').run P w = .ok ⟨w.heap.size, 0, none⟩ w1 ∧ Step P f h w f1 (h ++ [.cells v.cells es true]) w1 ∧ f1 h.length = ⟨w.heap.size, 0, v.cells.size, v.cells.size, es⟩ := by
  obtain ⟨h5, h6⟩ := storable_cells hst hv
  exact ⟨_, _, by simp [newVar, newRow], Step.alloc hs (.cells v.cells es true) (.cells v'.cells t) ⟨w.heap.size, 0, v.cells.size, v.cells.size, es⟩ rfl (cells_orel h5 h6 true), upd_eq _ _ _⟩

theorem new_ptr {f1 : Emb} {L : Nat} {I : Img} (h : f1 L = I) (ho : I.off = 0) : VRel f1 (L + 1) (.pointer (some ⟨L, 0, none⟩)) (.pointer (some ⟨I.blk, 0, none⟩)) :=
  .ptr L 0 _ _ (by omega) (by rw [h]) (by rw [h, ho])

def abox (h : AH) (v : Value) : Option (Value × AH) :=
  if storable v then some (.pointer (some ⟨h.length, 0, none⟩), h ++ [.cells v.cells 0 true]) else none

theorem sound_box {P : Program} {f : Emb} {h : AH} {w : World} (hs : Sim P f h w) (t : TypeId) {v v' : Value} (hv : VRel f h.length v v') {r : Value} {h1 : AH} (ha : abox h v = some (r, h1)) :
    ∃ f1 r' w1, (Instr.box t v').run P w = .ok r' w1 ∧ Step P f h w f1 h1 w1 ∧ VRel f1 h1.length r r' := by
  unfold abox at ha
  split at ha
  · rename_i hst
    simp only [Option.some.injEq, Prod.mk.injEq] at ha
    obtain ⟨rfl, rfl⟩ := ha
    obtain ⟨f1, w1, h2, h3, h4⟩ := sound_newVar hs t 0 hv hst
    refine ⟨f1, .pointer (some ⟨w.heap.size, 0, none⟩), w1, by simp only [Instr.box, Sem.run_bind, h2, Result.andThen_ok, Sem.run_pure], h3, ?_⟩
    have := new_ptr h4 rfl
    simpa using this
  · cases ha

def aalloc (P : Program) (h : AH) (t : TypeId) : Option (Value × AH) :=
  match P.info? t with
  | some i => match i.zero with
    | some z => if plainB z && storable z then some (.pointer (some ⟨h.length, 0, none⟩), h ++ [.cells z.cells 0 true]) else none
    | none => none
  | none => none

theorem run_zeroValue {P : Program} {t : TypeId} {i : TypeInfo} {z : Value} (hi : P.info? t = some i) (hz : i.zero = some z) (w : World) : (zeroValue t).run P w = .ok z w := by
  simp [zeroValue, run_typeInfo w hi, hz]

theorem sound_alloc {P : Program} {f : Emb} {h : AH} {w : World} (hs : Sim P f h w) (t : TypeId) {r : Value} {h1 : AH} (ha : aalloc P h t = some (r, h1)) :
    ∃ f1 r' w1, (Instr.alloc t true (.tuple #[])).run P w = .ok r' w1 ∧ Step P f h w f1 h1 w1 ∧ VRel f1 h1.length r r' := by
  unfold aalloc at ha
  split at ha
  · rename_i i hi
    split at ha
    · rename_i z hz
      split at ha
      · rename_i hp
        simp only [Bool.and_eq_true] at hp
        simp only [Option.some.injEq, Prod.mk.injEq] at ha
        obtain ⟨rfl, rfl⟩ := ha
        obtain ⟨f1, w1, h2, h3, h4⟩ := sound_newVar hs t 0 (plain_refl (f := f) (L := h.length) hp.1) hp.2
        refine ⟨f1, .pointer (some ⟨w.heap.size, 0, none⟩), w1, by simp only [Instr.alloc, Sem.run_bind, run_zeroValue hi hz, h2, Result.andThen_ok, Sem.run_pure], h3, ?_⟩
        have := new_ptr h4 rfl
        simpa using this
      · cases ha
    · cases ha
  · cases ha

end Go.Am
