import Derived.Test.YtogefnepdjkioaaAm3
set_option linter.unusedVariables false
set_option linter.unusedSimpArgs false
/- Composites, indexes, slices. -/
namespace Go.Am
open Go

theorem fold_blit (off : Nat) (l : List Value) : ∀ (k : Nat) (cells : Array Value),
    (l.zipIdx k).foldl (fun (cs : Array Value) (x : Value × Nat) => cs.setIfInBounds (off + x.2) x.1) cells = blit cells (off + k) l := by
  induction l with
  | nil => intro k cells; rfl
  | cons v r ih => intro k cells; simp only [List.zipIdx_cons, List.foldl_cons, ih, blit, Nat.add_assoc]

def afill (place : Nat → Option (Nat × Nat)) (cells : Array Value) : List (Nat × Value) → Option (Array Value)
  | [] => some cells
  | (i, v) :: rest =>
    match place i with
    | none => none
    | some (off, size) => if storable v = true ∧ v.cells.size = size ∧ off + v.cells.size ≤ cells.size then afill place (blit cells off v.cells.toList) rest else none

/-- rows of values, and of cells -/
def CRel (f : Emb) (L : Nat) (c c' : Array Value) : Prop := c.size = c'.size ∧ ∀ i : Nat, VRel f L (c.getD i junk) (c'.getD i junk) ∧ (c'.getD i junk).oneCell' = true

theorem CRel.set {f : Emb} {L : Nat} {c c' : Array Value} (h : CRel f L c c') (o : Nat) {v v' : Value} (hv : VRel f L v v') (h1 : v'.oneCell' = true) :
    CRel f L (c.setIfInBounds o v) (c'.setIfInBounds o v') := by
  refine ⟨by simpa using h.1, fun i => ?_⟩
  by_cases e : o = i
  · subst e
    by_cases hi : o < c.size
    · have hi' : o < c'.size := h.1 ▸ hi
      simp [Array.getD, hi, hi']
      exact ⟨hv, h1⟩
    · have hi' : ¬ o < c'.size := h.1 ▸ hi
      rw [getD_ge o (by simpa using hi), getD_ge o (by simpa using hi')]
      exact ⟨.junk _, rfl⟩
  · have h8 := h.2 i
    simp only [Array.getD_eq_getD_getElem?] at h8 ⊢
    rw [Array.getElem?_setIfInBounds_ne e, Array.getElem?_setIfInBounds_ne e]
    exact h8

theorem CRel.blit {f : Emb} {L : Nat} (vs : List Value) : ∀ (vs' : List Value) (c c' : Array Value) (o : Nat), CRel f L c c' → vs.length = vs'.length →
    (∀ i : Nat, VRel f L (vs.getD i junk) (vs'.getD i junk) ∧ (vs'.getD i junk).oneCell' = true) → CRel f L (blit c o vs) (Am.blit c' o vs') := by
  induction vs with
  | nil =>
    intro vs' c c' o h hl _
    cases vs' with
    | nil => exact h
    | cons => simp at hl
  | cons v r ih =>
    intro vs' c c' o h hl hv
    cases vs' with
    | nil => simp at hl
    | cons v' r' =>
      simp only [List.length_cons] at hl
      have h0 := hv 0
      exact ih r' _ _ (o + 1) (h.set o h0.1 h0.2) (by omega) (fun i => by simpa using hv (i + 1))

theorem CRel.of_storable {f : Emb} {L : Nat} {v v' : Value} (h : storable v = true) (r : VRel f L v v') : CRel f L v.cells v'.cells := storable_cells h r

theorem CRel.list {f : Emb} {L : Nat} {c c' : Array Value} (h : CRel f L c c') : c.toList.length = c'.toList.length ∧
    ∀ i : Nat, VRel f L (c.toList.getD i junk) (c'.toList.getD i junk) ∧ (c'.toList.getD i junk).oneCell' = true :=
  ⟨by simpa using h.1, fun i => by simpa [Array.getD_eq_getD_getElem?, List.getD] using h.2 i⟩

theorem CRel.agg {f : Emb} {L : Nat} {c c' : Array Value} (h : CRel f L c c') : VRel f L (.agg c) (.agg c') := .agg _ _ h.1 (fun i => (h.2 i).1) (fun i => (h.2 i).2)

def PRel (f : Emb) (L : Nat) : List (Nat × Value) → List (Nat × Value) → Prop
  | [], [] => True
  | (i, v) :: r, (i', v') :: r' => i = i' ∧ VRel f L v v' ∧ PRel f L r r'
  | _, _ => False

theorem fill_rel {f : Emb} {L : Nat} (place : Nat → Option (Nat × Nat)) (ps : List (Nat × Value)) : ∀ (ps' : List (Nat × Value)) (c c' r : Array Value), CRel f L c c' → PRel f L ps ps' →
    afill place c ps = some r → ∃ r', Instr.fill place c' ps' = some r' ∧ CRel f L r r' := by
  induction ps with
  | nil =>
    intro ps' c c' r h hp ha
    cases ps' with
    | nil => simp only [afill, Option.some.injEq] at ha; subst ha; exact ⟨c', rfl, h⟩
    | cons => simp [PRel] at hp
  | cons p rest ih =>
    intro ps' c c' r h hp ha
    obtain ⟨i, v⟩ := p
    cases ps' with
    | nil => simp [PRel] at hp
    | cons p' rest' =>
      obtain ⟨i', v'⟩ := p'
      obtain ⟨rfl, hv, hr⟩ := hp
      simp only [afill] at ha
      split at ha
      · cases ha
      · rename_i off size hpl
        split at ha
        · rename_i hc
          obtain ⟨h1, h2, h3⟩ := hc
          have hcr := CRel.of_storable h1 hv
          obtain ⟨hl, hl2⟩ := hcr.list
          obtain ⟨r', h4, h5⟩ := ih rest' _ _ r (CRel.blit _ _ c c' off h hl hl2) hr ha
          refine ⟨r', ?_, h5⟩
          simp only [Instr.fill, hpl]
          have hb : ¬ ((v'.cells.size ≠ size || off + v'.cells.size > c'.size) = true) := by
            have := hcr.1; have := h.1
            simp; omega
          have hz : (v'.cells.zipIdx.foldl (fun (cs : Array Value) (x : Value × Nat) => cs.setIfInBounds (off + x.2) x.1) c') = Am.blit c' off v'.cells.toList := by
            rw [← Array.foldl_toList, Array.toList_zipIdx, fold_blit]
            simp
          simp only [bne_iff_ne, ne_eq, Bool.or_eq_true, decide_eq_true_eq] at hb ⊢
          rw [if_neg hb]
          rw [← h4]
          exact congrArg (fun x => Instr.fill place x rest') hz
        · cases ha

theorem plain_crel {f : Emb} {L : Nat} {z : Value} (h : plainB z = true) (hs : storable z = true) : CRel f L z.cells z.cells := CRel.of_storable hs (plain_refl h)

def abuild (P : Program) (t : TypeId) (parts : List (Nat × Value)) : Option Value :=
  match P.info? t with
  | some i => match i.zero with
    | some z => if plainB z && storable z then
        match P.underlying t with
        | some (.struct fields) => match pureRun P (fields.mapM fun f => do pure (f.offset, ← sizeOf f.type) : Sem _) with
          | some places => (afill (places[·]?) z.cells parts).map .agg
          | none => none
        | some (.array _ elem) => match P.info? elem with
          | some ie => (afill (fun i => some (i * ie.size, ie.size)) z.cells parts).map .agg
          | none => none
        | _ => none
      else none
    | none => none
  | none => none

theorem sound_build {P : Program} {f : Emb} {L : Nat} (w : World) (t : TypeId) {parts parts' : Array (Nat × Value)} (hp : PRel f L parts.toList parts'.toList) {r : Value} (ha : abuild P t parts.toList = some r) :
    ∃ r', (Instr.build t parts').run P w = .ok r' w ∧ VRel f L r r' := by
  unfold abuild at ha
  split at ha
  · rename_i i hi
    split at ha
    · rename_i z hz
      split at ha
      · rename_i hpz
        simp only [Bool.and_eq_true] at hpz
        have hcr : CRel f L z.cells z.cells := plain_crel hpz.1 hpz.2
        split at ha
        · rename_i fields hu
          split at ha
          · rename_i places hpl
            simp only [Option.map_eq_some_iff] at ha
            obtain ⟨cs, h1, rfl⟩ := ha
            obtain ⟨r', h2, h3⟩ := fill_rel _ _ parts'.toList _ _ cs hcr hp h1
            refine ⟨.agg r', ?_, h3.agg⟩
            have hrun := pureRun_run hpl w
            simp only [Instr.build, Sem.run_bind, run_zeroValue hi hz, Result.andThen_ok, run_underlying hu, hrun, h2, Sem.run_pure]
          · cases ha
        · rename_i n elem hu
          split at ha
          · rename_i ie hie
            simp only [Option.map_eq_some_iff] at ha
            obtain ⟨cs, h1, rfl⟩ := ha
            obtain ⟨r', h2, h3⟩ := fill_rel _ _ parts'.toList _ _ cs hcr hp h1
            refine ⟨.agg r', ?_, h3.agg⟩
            have hsz : P.cellsOf elem = ie.size := by simp [Program.cellsOf, hie]
            simp only [Instr.build, Sem.run_bind, run_zeroValue hi hz, Result.andThen_ok, run_underlying hu, run_sizeOf w hie, hsz, h2, Sem.run_pure]
          · cases ha
        · cases ha
      · cases ha
    · cases ha
  · cases ha

/-- so many zeros -/
def zeros (z : Array Value) (n : Nat) : Array Value := (Array.range n).map (z[· % z.size]!)

theorem size_zeros (z : Array Value) (n : Nat) : (zeros z n).size = n := by simp [zeros]

theorem zeros_crel {f : Emb} {L : Nat} {z : Array Value} (h : z.all plain1 = true) (hz : 0 < z.size) (n : Nat) : CRel f L (zeros z n) (zeros z n) := by
  refine ⟨rfl, fun i => ?_⟩
  by_cases hi : i < n
  · have e : (zeros z n).getD i junk = z.getD (i % z.size) junk := by
      have hm : i % z.size < z.size := Nat.mod_lt _ hz
      simp [zeros, Array.getD, hi, hm]
    rw [e]
    have := getD_all h (i % z.size) (Nat.mod_lt _ hz)
    exact ⟨plain1_refl this, plain1_one this⟩
  · rw [getD_ge i (by simpa [zeros] using hi)]
    exact ⟨.junk _, rfl⟩

theorem plain_cells_all {z : Value} (h : plainB z = true) (hs : storable z = true) : (match z with | .agg cs => cs.all plain1 | .bool _ | .int _ _ | .string _ | .pointer none | .map none | .slice none _ _ | .nilFunc | .nilIface => true | _ => false) = true → z.cells.all plain1 = true := by
  intro hm
  cases z with
  | agg cs => exact h
  | pointer a => cases a <;> simp_all [Value.cells, plain1]
  | map a => cases a <;> simp_all [Value.cells, plain1]
  | slice a l c => cases a <;> simp_all [Value.cells, plain1]
  | _ => simp_all [Value.cells, plain1]

def zeroCellsOf (P : Program) (t : TypeId) : Option (Array Value) :=
  match P.info? t with
  | some i => match i.zero with
    | some z => if z.cells.all plain1 && decide (z.cells.size = i.size) && decide (0 < i.size) then some z.cells else none
    | none => none
  | none => none

theorem zeroCellsOf_spec {P : Program} {t : TypeId} {zc : Array Value} (h : zeroCellsOf P t = some zc) : ∃ i z, P.info? t = some i ∧ i.zero = some z ∧ z.cells = zc ∧ zc.all plain1 = true ∧ zc.size = i.size ∧ 0 < i.size := by
  unfold zeroCellsOf at h
  split at h
  · rename_i i hi
    split at h
    · rename_i z hz
      split at h
      · rename_i hc
        simp only [Bool.and_eq_true, decide_eq_true_eq] at hc
        simp only [Option.some.injEq] at h
        subst h
        exact ⟨i, z, hi, hz, rfl, hc.1.1, hc.1.2, hc.2⟩
      · cases h
    · cases h
  · cases h

def abuildSlice (P : Program) (h : AH) (t : TypeId) (len : Nat) (parts : List (Nat × Value)) : Option (Value × AH) :=
  match P.underlying t with
  | some (.slice elem) => match zeroCellsOf P elem with
    | some zc => if len * zc.size ≤ 2 ^ 24 then
        match afill (fun i => some (i * zc.size, zc.size)) (zeros zc (len * zc.size)) parts with
        | some cells => some (.slice (some ⟨h.length, 0, none⟩) len len, h ++ [.cells cells zc.size true])
        | none => none
      else none
    | none => none
  | _ => none

theorem size_afill {place : Nat → Option (Nat × Nat)} (ps : List (Nat × Value)) : ∀ {c r : Array Value}, afill place c ps = some r → r.size = c.size := by
  induction ps with
  | nil => intro c r h; simp [afill] at h; subst h; rfl
  | cons p rest ih =>
    intro c r h
    obtain ⟨i, v⟩ := p
    simp only [afill] at h
    split at h
    · cases h
    · split at h
      · rw [ih h, size_blit]
      · cases h

theorem new_slice {f1 : Emb} {L : Nat} {I : Img} (h : f1 L = I) (ho : I.off = 0) (l c c' : Nat) (hc : CapRel I 0 c c') :
    VRel f1 (L + 1) (.slice (some ⟨L, 0, none⟩) l c) (.slice (some ⟨I.blk, 0, none⟩) l c') :=
  .slice L 0 l c c' _ _ (by omega) (by rw [h]) (by rw [h, ho]) (by rw [h]; exact hc)

theorem sound_buildSlice {P : Program} {f : Emb} {h : AH} {w : World} (hs : Sim P f h w) (t : TypeId) (len : Nat) {parts parts' : Array (Nat × Value)} (hp : PRel f h.length parts.toList parts'.toList)
    {r : Value} {h1 : AH} (ha : abuildSlice P h t len parts.toList = some (r, h1)) :
    ∃ f1 r' w1, (Instr.buildSlice t len parts').run P w = .ok r' w1 ∧ Step P f h w f1 h1 w1 ∧ VRel f1 h1.length r r' := by
  unfold abuildSlice at ha
  split at ha
  · rename_i elem hu
    split at ha
    · rename_i zc hzc
      obtain ⟨i, z, hi, hz, hzc', hall, hsz, hpos⟩ := zeroCellsOf_spec hzc
      split at ha
      · rename_i hle
        split at ha
        · rename_i cells hf
          simp only [Option.some.injEq, Prod.mk.injEq] at ha
          obtain ⟨rfl, rfl⟩ := ha
          obtain ⟨cells', h2, h3⟩ := fill_rel _ _ parts'.toList _ _ cells (zeros_crel (f := f) (L := h.length) hall (by omega) (len * zc.size)) hp hf
          have hcs : P.cellsOf elem = zc.size := by simp [Program.cellsOf, hi, hsz]
          have hsize : cells.size = len * zc.size := by rw [size_afill _ hf, size_zeros]
          have hst := Step.alloc hs (.cells cells zc.size true) (.cells cells' elem) ⟨w.heap.size, 0, cells.size, cells.size, zc.size⟩ rfl (cells_orel h3.1 h3.2 true)
          refine ⟨_, .slice (some ⟨w.heap.size, 0, none⟩) len len, _, ?_, hst, ?_⟩
          · have hn : ¬ (len * zc.size > 2 ^ 24) := by omega
            by_cases h0 : len * zc.size = 0
            · have e0 : (Array.range 0).map (fun x => (#[] : Array Value)[x % (#[] : Array Value).size]!) = zeros zc 0 := by simp [zeros]
              rw [h0] at h2
              rw [← e0] at h2
              have hn0 : ¬ ((0 : Nat) > 2 ^ 24) := by omega
              simp only [Instr.buildSlice, Sem.run_bind, run_underlying hu, Result.andThen_ok, run_sizeOf w hi, hcs, h0, hn0, if_false, if_true, Sem.run_pure, h2, newRow, run_newObj]
              rfl
            · have e1 : (Array.range (len * zc.size)).map (fun x => zc[x % zc.size]!) = zeros zc (len * zc.size) := rfl
              simp only [Instr.buildSlice, Sem.run_bind, run_underlying hu, Result.andThen_ok, run_sizeOf w hi, hcs, hn, if_false, h0, Sem.run_pure, run_zeroValue hi hz, hzc', e1, h2, newRow, run_newObj]
              rfl
          · have := new_slice (f1 := upd f h.length ⟨w.heap.size, 0, cells.size, cells.size, zc.size⟩) (L := h.length) (upd_eq _ _ _) rfl len len len (.inl rfl)
            simpa using this
        · cases ha
      · cases ha
    · cases ha
  · cases ha

end Go.Am
