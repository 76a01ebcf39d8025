import Derived.Test.YtihdilnanhjedaaAm3x
set_option linter.unusedVariables false
set_option linter.unusedSimpArgs false
/- append, copy, make. -/
namespace Go.Am
open Go

/-- what is handed to append or copy: how many, and the cells -/
def asource (h : AH) (size : Nat) : Value → Option (Nat × Array Value)
  | .slice (some ⟨b, o, none⟩) n _ => if n = 0 then some (0, #[]) else match h[b]? with
    | some (.cells c _ _) => if o + n * size ≤ c.size then some (n, c.extract o (o + n * size)) else none
    | _ => none
  | .slice none n _ => if n = 0 then some (0, #[]) else none
  | .string s => if size = 1 then some (s.size, s.data.map fun b => .int .u8 b.toNat) else none
  | .func (.yield 0) cs ks => match fzN ks with
    | some n => if n * size ≤ cs.size then some (n, cs.extract 0 (n * size)) else none
    | none => none
  | _ => none

theorem crel_nil {f : Emb} {L : Nat} : CRel f L #[] #[] := ⟨rfl, fun i => by simp; exact ⟨.junk _, rfl⟩⟩

theorem crel_plain {f : Emb} {L : Nat} {c : Array Value} (h : c.all plain1 = true) : CRel f L c c := by
  refine ⟨rfl, fun i => ?_⟩
  by_cases hi : i < c.size
  · have := getD_all h i hi
    exact ⟨plain1_refl this, plain1_one this⟩
  · rw [getD_ge i hi]; exact ⟨.junk _, rfl⟩

theorem bytes_crel {f : Emb} {L : Nat} (s : ByteArray) : CRel f L (s.data.map fun b => Value.int .u8 b.toNat) (s.data.map fun b => Value.int .u8 b.toNat) :=
  crel_plain (by rw [Array.all_eq_true]; intro i hi; simp [plain1])

theorem run_loadCells_zero {P : Program} (w : World) (a : Addr) : (loadCells a 0).run P w = .ok #[] w := rfl

/-- the first m of them -/
theorem sound_first {P : Program} {f : Emb} {h : AH} {w : World} (hs : Sim P f h w) {size : Nat} {x x' : Value} (hx : VRel f h.length x x') {n : Nat} {cs : Array Value} (ha : asource h size x = some (n, cs)) (m : Nat) (hm : m ≤ n) :
    (Builtin.lenOf x').run P w = .ok n w ∧ ∃ ds, (Builtin.firstCells size m x').run P w = .ok ds w ∧ CRel f h.length (cs.extract 0 (m * size)) ds ∧ cs.size = n * size := by
  unfold asource at ha
  split at ha
  · rename_i b o n' cap
    split at ha
    · rename_i hz
      simp only [Option.some.injEq, Prod.mk.injEq] at ha
      obtain ⟨rfl, rfl⟩ := ha
      subst hz
      have hm0 : m = 0 := by omega
      subst hm0
      rcases hx.slice_inv with ⟨c', rfl, _, _⟩ | ⟨_, _, a', rfl, _⟩
      · exact ⟨rfl, #[], by simp [Builtin.firstCells, run_loadCells_zero], by simpa using crel_nil, by simp⟩
      · exact ⟨rfl, #[], by simp [Builtin.firstCells, run_loadCells_zero], by simpa using crel_nil, by simp⟩
    · rename_i hnz
      split at ha
      · rename_i c es rw hb
        split at ha
        · rename_i hle
          simp only [Option.some.injEq, Prod.mk.injEq] at ha
          obtain ⟨rfl, rfl⟩ := ha
          rcases hx.slice_inv with ⟨c', rfl, hbL, hc⟩ | ⟨h0, _, _, _, _⟩
          · have hmle : m * size ≤ n' * size := Nat.mul_le_mul_right _ hm
            obtain ⟨ds, h1, h2, h3, h4⟩ := hs.loadCells hb o (m * size) (by omega)
            refine ⟨rfl, ds, by simpa [Builtin.firstCells] using h1, ?_, by simp; omega⟩
            have e : (c.extract o (o + n' * size)).extract 0 (m * size) = c.extract o (o + m * size) := by
              simp only [Array.extract_extract, Nat.add_zero]
              congr 1
              omega
            rw [e]
            exact ⟨by simp; omega, fun i => ⟨h3 i, h4 i⟩⟩
          · exact absurd h0 hnz
        · cases ha
      · cases ha
  · rename_i n' cap
    split at ha
    · rename_i hz
      simp only [Option.some.injEq, Prod.mk.injEq] at ha
      obtain ⟨rfl, rfl⟩ := ha
      subst hz
      have hm0 : m = 0 := by omega
      subst hm0
      have hx' : x' = .slice none 0 cap := plain_inv rfl hx
      subst hx'
      exact ⟨rfl, #[], by simp [Builtin.firstCells], by simpa using crel_nil, by simp⟩
    · cases ha
  · rename_i s
    split at ha
    case isFalse => cases ha
    rename_i hone
    subst hone
    simp only [Option.some.injEq, Prod.mk.injEq] at ha
    obtain ⟨rfl, rfl⟩ := ha
    cases hx.string_inv
    have he : ((s.extract 0 m).data.map fun b => Value.int .u8 b.toNat) = (s.data.map fun b => Value.int .u8 b.toNat).extract 0 (m * 1) := by
      rw [Nat.mul_one, ByteArray.data_extract]
      apply Array.ext
      · simp
      · intro i h1 h2
        simp
    refine ⟨rfl, _, rfl, ?_, by rw [Array.size_map, Nat.mul_one]; rfl⟩
    rw [he]
    exact crel_plain (by
      rw [Array.all_eq_true]
      intro i hi
      simp [plain1])
  · rename_i c ks
    obtain ⟨n0, rfl, hcz⟩ := hx.fz_inv
    rw [fzN_lit] at ha
    simp only at ha
    split at ha
    case isFalse => cases ha
    rename_i hle1
    simp only [Option.some.injEq, Prod.mk.injEq] at ha
    obtain ⟨rfl, rfl⟩ := ha
    have hmle : m * size ≤ n0 * size := Nat.mul_le_mul_right _ hm
    have e : (c.extract 0 (n0 * size)).extract 0 (m * size) = c.extract 0 (m * size) := by
      simp only [Array.extract_extract, Nat.add_zero]
      congr 1
      omega
    rw [e]
    rcases hcz with ⟨r0, o0, c0, ds, rfl, hrom, hle, hn, hxy, hone⟩ | ⟨rfl, rfl, a, c0, rfl⟩
    · obtain ⟨ds1, h1, h2, h3, h4⟩ := (hs.heldRom hrom hle hxy hone).loadCells (P := P) 0 (m * size) (by omega)
      simp only [Nat.zero_add, Nat.add_zero] at h1 h3
      exact ⟨rfl, ds1, by simpa [Builtin.firstCells] using h1, ⟨by simp; omega, fun i => ⟨h3 i, h4 i⟩⟩, by simp; omega⟩
    · have hm0 : m = 0 := by omega
      subst hm0
      exact ⟨rfl, #[], by simp [Builtin.firstCells, run_loadCells_zero], by simpa using crel_nil, by simp⟩
  · cases ha

theorem extract_self (cs : Array Value) (n : Nat) (h : cs.size = n) : cs.extract 0 n = cs := by subst h; simp

theorem sound_source {P : Program} {f : Emb} {h : AH} {w : World} (hs : Sim P f h w) {size : Nat} {x x' : Value} (hx : VRel f h.length x x') {n : Nat} {cs : Array Value} (ha : asource h size x = some (n, cs)) :
    (Builtin.lenOf x').run P w = .ok n w ∧ ∃ ds, (Builtin.firstCells size n x').run P w = .ok ds w ∧ CRel f h.length cs ds ∧ cs.size = n * size := by
  obtain ⟨h1, ds, h2, h3, h4⟩ := sound_first hs hx ha n (Nat.le_refl _)
  rw [extract_self cs _ h4] at h3
  exact ⟨h1, ds, h2, h3, h4⟩

/-! ### copy -/
def acopy (P : Program) (h : AH) (dT : TypeId) (dst src : Value) : Option (Value × AH) :=
  match P.underlying dT with
  | some (.slice elem) => match P.info? elem with
    | some ie => match asource h ie.size src with
      | some (n, cs) => match dst with
          | .slice (some ⟨b, o, none⟩) dLen _ =>
            if min n dLen * ie.size = 0 then some (.int .i64 (min n dLen : Nat), h) else match h[b]? with
            | some (.cells c es true) => if o + min n dLen * ie.size ≤ c.size then some (.int .i64 (min n dLen : Nat), h.set b (.cells (blit c o (cs.extract 0 (min n dLen * ie.size)).toList) es true)) else none
            | _ => none
          | .slice none 0 _ => some (.int .i64 0, h)
          | _ => none
      | none => none
    | none => none
  | _ => none

theorem sound_copy {P : Program} {f : Emb} {h : AH} {w : World} (hs : Sim P f h w) {ts : Array TypeId} {dT ty : TypeId} (hts : ts[0]? = some dT) {dst dst' src src' : Value} (hd : VRel f h.length dst dst') (hx : VRel f h.length src src')
    {r : Value} {h1 : AH} (ha : acopy P h dT dst src = some (r, h1)) :
    ∃ r' w1, (Builtin.copy_ ts ty #[dst', src']).run P w = .ok r' w1 ∧ Step P f h w f h1 w1 ∧ VRel f h1.length r r' := by
  unfold acopy at ha
  split at ha
  · rename_i elem hu
    split at ha
    · rename_i ie hie
      have hsz : P.cellsOf elem = ie.size := by simp [Program.cellsOf, hie]
      split at ha
      · rename_i n cs hsrc
        split at ha
        · rename_i b o dLen dCap
          obtain ⟨l1, ds, l2, l3, l4⟩ := sound_first hs hx hsrc (min n dLen) (Nat.min_le_left _ _)
          split at ha
          · rename_i hzero
            simp only [Option.some.injEq, Prod.mk.injEq] at ha
            obtain ⟨rfl, rfl⟩ := ha
            have hds : ds = #[] := by
              have := l3.1
              rw [hzero] at this
              exact Array.eq_empty_of_size_eq_zero (by simp at this; omega)
            subst hds
            have key : ∀ (a' : Addr) (c' : Nat), (Builtin.copy_ ts ty #[.slice (some a') dLen c', src']).run P w = .ok (.int .i64 (min n dLen : Nat)) w := by
              intro a' c'
              have e1 : Nat.min n dLen = min n dLen := rfl
              simp only [Builtin.copy_, hts, List.getElem?_toArray, List.getElem?_cons_zero, List.getElem?_cons_succ, Sem.run_bind, run_underlying hu, Result.andThen_ok, l1, run_sizeOf w hie, hsz, e1, l2, storeCells, Sem.run_pure, goInt]
            rcases hd.slice_inv with ⟨c', rfl, _, _⟩ | ⟨h0, _, a', rfl, _⟩
            · exact ⟨_, w, key _ c', Step.refl hs, .int _ _⟩
            · subst h0; exact ⟨_, w, key a' 0, Step.refl hs, .int _ _⟩
          · rename_i hnz
            split at ha
            · rename_i c es hb
              split at ha
              · rename_i hle
                simp only [Option.some.injEq, Prod.mk.injEq] at ha
                obtain ⟨rfl, rfl⟩ := ha
                rcases hd.slice_inv with ⟨c', rfl, _, _⟩ | ⟨h0, _, a', rfl, _⟩
                · have hc := l3.list
                  have hlen : (cs.extract 0 (min n dLen * ie.size)).toList.length = min n dLen * ie.size := by
                    have : min n dLen * ie.size ≤ n * ie.size := Nat.mul_le_mul_right _ (Nat.min_le_left _ _)
                    simp; omega
                  obtain ⟨w1, k1, k2⟩ := sound_storeCells hs hb (o := o) (vs := (cs.extract 0 (min n dLen * ie.size)).toList) (vs' := ds.toList) hc.1 (by rw [hlen]; exact hle) hc.2
                  refine ⟨.int .i64 (min n dLen : Nat), w1, ?_, k2, .int _ _⟩
                  have e1 : Nat.min n dLen = min n dLen := rfl
                  simp only [Builtin.copy_, hts, List.getElem?_toArray, List.getElem?_cons_zero, List.getElem?_cons_succ, Sem.run_bind, run_underlying hu, Result.andThen_ok, l1, run_sizeOf w hie, hsz, e1, l2, k1, Sem.run_pure, goInt]
                · exfalso; subst h0; simp at hnz
              · cases ha
            · cases ha
        · rename_i dCap
          simp only [Option.some.injEq, Prod.mk.injEq] at ha
          obtain ⟨rfl, rfl⟩ := ha
          have hd' : dst' = .slice none 0 dCap := plain_inv rfl hd
          subst hd'
          obtain ⟨l1, ds, l2, l3, l4⟩ := sound_first hs hx hsrc 0 (Nat.zero_le _)
          refine ⟨.int .i64 0, w, ?_, Step.refl hs, .int _ _⟩
          have e1 : Nat.min n 0 = 0 := Nat.min_zero n
          simp only [Builtin.copy_, hts, List.getElem?_toArray, List.getElem?_cons_zero, List.getElem?_cons_succ, Sem.run_bind, run_underlying hu, Result.andThen_ok, l1, run_sizeOf w hie, hsz, e1, l2, Sem.run_pure, goInt]
          rfl
        · cases ha
      · cases ha
    · cases ha
  · cases ha

/-! ### make -/
def amakeSlice (P : Program) (h : AH) (t : TypeId) (l c : Value) : Option (Value × AH) :=
  match P.underlying t, l, c with
  | some (.slice elem), .int .i64 len, .int .i64 cap => match zeroCellsOf P elem, P.info? elem with
    | some zc, some ie => if 0 ≤ len ∧ len ≤ cap ∧ cap < 2 ^ 62 ∧ ie.bytes * cap ≤ 2 ^ 48 then
        some (.slice (some ⟨h.length, 0, none⟩) len.toNat cap.toNat, h ++ [.cells (zeros zc (cap.toNat * zc.size)) zc.size true]) else none
    | _, _ => none
  | _, _, _ => none

theorem wrap_i64 {n : Int} (h0 : 0 ≤ n) (h1 : n < 2 ^ 62) : IntKind.i64.wrap n = n := by
  have h2 : (2 : Int) ^ 62 = 4611686018427387904 := by decide
  rw [h2] at h1
  exact IntWalk.i64_in n (by omega)

theorem sound_makeSlice {P : Program} {f : Emb} {h : AH} {w : World} (hs : Sim P f h w) (t : TypeId) {l l' c c' : Value} (hl : VRel f h.length l l') (hc : VRel f h.length c c')
    {r : Value} {h1 : AH} (ha : amakeSlice P h t l c = some (r, h1)) :
    ∃ f1 r' w1, (Instr.makeSlice t l' c').run P w = .ok r' w1 ∧ Step P f h w f1 h1 w1 ∧ VRel f1 h1.length r r' := by
  unfold amakeSlice at ha
  split at ha
  · rename_i elem len cap hu
    cases hl.int_inv
    cases hc.int_inv
    split at ha
    · rename_i zc ie hzc hie
      obtain ⟨i, z, hi, hz, hzc', hall, hsz, hpos⟩ := zeroCellsOf_spec hzc
      have hii : i = ie := by rw [hi] at hie; exact Option.some.inj hie
      subst hii
      split at ha
      · rename_i hcond
        obtain ⟨c1, c2, c3, c4⟩ := hcond
        simp only [Option.some.injEq, Prod.mk.injEq] at ha
        obtain ⟨rfl, rfl⟩ := ha
        have hcs : P.cellsOf elem = zc.size := by simp [Program.cellsOf, hi, hsz]
        have hcr := zeros_crel (f := f) (L := h.length) hall (by omega) (cap.toNat * zc.size)
        have hst := Step.alloc hs (.cells (zeros zc (cap.toNat * zc.size)) zc.size true) (.cells (zeros zc (cap.toNat * zc.size)) elem) ⟨w.heap.size, 0, (zeros zc (cap.toNat * zc.size)).size, (zeros zc (cap.toNat * zc.size)).size, zc.size⟩ rfl (cells_orel hcr.1 hcr.2 true (fun h => absurd h (by have := (zeroCellsOf_tag hzc).1; omega)))
        refine ⟨_, .slice (some ⟨w.heap.size, 0, none⟩) len.toNat cap.toNat, _, ?_, hst, ?_⟩
        · have w1 : IntKind.i64.wrap len = len := wrap_i64 c1 (by omega)
          have w2 : IntKind.i64.wrap cap = cap := wrap_i64 (by omega) c3
          have b2 : (decide (cap < 0) || decide ((i.bytes : Int) * cap > 2 ^ 48) || decide (len < 0) || decide (len > cap)) = false := by
            simp only [Bool.or_eq_false_iff, decide_eq_false_iff_not]
            omega
          simp only [Instr.makeSlice, Sem.run_bind, run_underlying hu, Result.andThen_ok, asInt, asIntOf, Sem.run_pure, run_typeInfo w hi, w1, w2, b2, Bool.false_eq_true, if_false, run_askRoom, run_sizeOf w hi, hcs]
          by_cases h0 : cap.toNat * zc.size = 0
          · have e0 : (Array.range 0).map (fun x => (#[] : Array Value)[x % (#[] : Array Value).size]!) = zeros zc 0 := by simp [zeros]
            simp only [Sem.run_bind, Sem.run_pure, Result.andThen_ok, Sem.run_ite, h0, if_true, newRow, run_newObj, e0]
            rfl
          · have e1 : (Array.range (cap.toNat * zc.size)).map (fun x => zc[x % zc.size]!) = zeros zc (cap.toNat * zc.size) := rfl
            simp only [Sem.run_bind, Sem.run_pure, Result.andThen_ok, Sem.run_ite, h0, if_false, run_zeroValue hi hz, hzc', newRow, run_newObj, e1]
            rfl
        · have := new_slice (f1 := upd f h.length ⟨w.heap.size, 0, (zeros zc (cap.toNat * zc.size)).size, (zeros zc (cap.toNat * zc.size)).size, zc.size⟩) (L := h.length) (upd_eq _ _ _) rfl len.toNat cap.toNat cap.toNat (.inl rfl)
          simpa using this
      · cases ha
    · cases ha
  · cases ha

/-! ### append -/
theorem growBy_le (n : Nat) : ∀ (r c : Nat), c ≤ 2 * n + 192 → Builtin.growBy n r c ≤ 2 * n + 192
  | 0, c, h => by simpa [Builtin.growBy] using h
  | r + 1, c, h => by
    unfold Builtin.growBy
    split
    · exact h
    · exact growBy_le n r _ (by omega)

theorem nextslicecap_le (need c : Nat) (h : c < need) : Builtin.nextslicecap need c ≤ 2 * need + 192 := by
  unfold Builtin.nextslicecap
  split
  · omega
  · split
    · omega
    · exact growBy_le need 4 c (by omega)

/-- what is appended: a slice, a string, or so many zeros -/
def aappended (P : Program) (h : AH) (elem xT : TypeId) (size : Nat) (x : Value) : Option (Nat × Array Value) :=
  match P.underlying xT with
  | some (.int _) => match x, zeroCellsOf P elem, P.info? elem with
    | .int .i64 n, some zc, some ie => if 0 ≤ n ∧ n < 2 ^ 62 ∧ n * ie.bytes ≤ 2 ^ 48 then some (n.toNat, zeros zc (n.toNat * zc.size)) else none
    | _, _, _ => none
  | some _ => asource h size x
  | none => none

/-- a row that bears its cells' size, or its kind where that is 1 -/
def appFits (es size elem o : Nat) : Prop := (es = size ∧ es < tagN) ∨ (es = tagN + elem ∧ size = 1 ∧ o = 0)
instance {es size elem o : Nat} : Decidable (appFits es size elem o) := by unfold appFits; infer_instance
theorem appFits.szOf {es size elem o : Nat} (h : appFits es size elem o) : szOf es = size := by
  rcases h with ⟨h, k⟩ | ⟨rfl, h, _⟩
  · rw [szOf_lt k, h]
  · rw [szOf_tag, h]
theorem appFits.tag {es size elem o : Nat} (h : appFits es size elem o) : tagN ≤ es → es = tagN + elem ∧ o = 0 := by
  rcases h with ⟨h, k⟩ | ⟨h, _, k⟩
  · intro h2; omega
  · exact fun _ => ⟨h, k⟩
def aappend (P : Program) (h : AH) (sT xT : TypeId) (s x : Value) : Option (Value × AH) :=
  match P.underlying sT with
  | some (.slice elem) => match P.info? elem, zeroCellsOf P elem with
    | some ie, some zc => match aappended P h elem xT ie.size x with
      | some (n, new) => match s with
        | .slice none 0 0 => if n = 0 then some (.slice none 0 0, h) else
            if (2 * n + 192) * ie.bytes ≤ 2 ^ 48 ∧ n < 2 ^ 62 then some (.slice (some ⟨h.length, 0, none⟩) n n, h ++ [.cells new ie.size true]) else none
        | .func (.yield 2) xs ks => if xs.size = 0 ∧ ks.size = 0 ∧ ie.size = 1 then
            if n = 0 then some (bnil, h) else
            if (2 * n + 192) * ie.bytes ≤ 2 ^ 48 ∧ n < 2 ^ 62 then some (.slice (some ⟨h.length, 0, none⟩) n n, h ++ [.cells new (tagN + elem) true]) else none
            else none
        | .slice (some ⟨b, o, none⟩) len cap =>
            if n = 0 ∧ len ≤ cap then some (.slice (some ⟨b, o, none⟩) len cap, h) else
            match h[b]? with
            | some (.cells c es true) =>
              if o + len * ie.size ≤ c.size ∧ appFits es ie.size elem o then
                if len + n ≤ cap then
                  if o + (len + n) * ie.size ≤ c.size then some (.slice (some ⟨b, o, none⟩) (len + n) cap, h.set b (.cells (blit c (o + len * ie.size) new.toList) es true)) else none
                else if (2 * (len + n) + 192) * ie.bytes ≤ 2 ^ 48 ∧ len + n < 2 ^ 62 then
                  some (.slice (some ⟨h.length, 0, none⟩) (len + n) (len + n), h.set b .dead ++ [.cells (c.extract o (o + len * ie.size) ++ new) es true]) else none
              else none
            | _ => none
        | _ => none
      | none => none
    | _, _ => none
  | _ => none

end Go.Am
set_option linter.unusedVariables false
set_option linter.unusedSimpArgs false
/- append, proved. -/
namespace Go.Am
open Go

theorem rw_alive {o : AObj} (h : o.rw = true) : o.alive = true := by cases o <;> simp_all [AObj.rw, AObj.alive]

/-- A block is given up; what it was goes on as another one (perhaps written, perhaps longer), in the same place of the world. -/
theorem Step.move {P : Program} {f : Emb} {h : AH} {w : World} (hs : Sim P f h w) {b : Nat} {o o1 : AObj} (hb : h[b]? = some o) (ho : o.rw = true)
    {w1 : World} {o1' : Obj} (I : Img) (hI : I.blk = (f b).blk) (hok : o1.ok P) (hw : w1.heap[(f b).blk]? = some o1') (hr : ORel f h.length I o1 o1') (hother : ∀ r, r ≠ (f b).blk → w1.heap[r]? = w.heap[r]?)
    (hos : w1.os = w.os) (htape : w1.tape = w.tape) (hout : w1.output = w.output) (hsize : w1.heap.size = w.heap.size) (hdr : w1.drawn = w.drawn) :
    Step P f h w (upd f h.length I) (h.set b .dead ++ [o1]) w1 := by
  have hlt : b < h.length := (List.getElem?_eq_some_iff.1 hb).1
  have hag : ∀ b, b < h.length → upd f h.length I b = f b := fun b hb => upd_lt _ _ _ _ hb
  have hagr := upd_agree f h.length I
  have hcase : ∀ (b' : Nat) (x : AObj), (h.set b .dead ++ [o1])[b']? = some x → x.alive = true → (b' < h.length ∧ b' ≠ b ∧ h[b']? = some x) ∨ (b' = h.length ∧ x = o1) := by
    intro b' x hx ha
    by_cases hl : b' < h.length
    · rw [List.getElem?_append_left (by simpa using hl)] at hx
      by_cases he : b = b'
      · subst he
        rw [List.getElem?_set_self hlt] at hx
        cases hx
        simp [AObj.alive] at ha
      · rw [List.getElem?_set_ne he] at hx
        exact .inl ⟨hl, fun e => he e.symm, hx⟩
    · rw [List.getElem?_append_right (by simpa using hl)] at hx
      simp only [List.length_set] at hx
      by_cases he : b' = h.length
      · subst he; simp at hx; exact .inr ⟨rfl, hx.symm⟩
      · exfalso
        obtain ⟨k, hk⟩ := Nat.exists_eq_succ_of_ne_zero (show b' - h.length ≠ 0 by omega)
        rw [hk] at hx
        simp at hx
  have hlen : (h.set b .dead ++ [o1]).length = h.length + 1 := by simp
  refine ⟨⟨?_, ?_, ?_, ?_, ?_, hs.laid, fun b' x hb => by
    by_cases ha : x.alive = true
    · exact (hcase b' x hb ha).elim (fun ⟨_, _, h1⟩ => hs.ok b' x h1) (fun ⟨_, e⟩ => e ▸ hok)
    · cases x <;> first | exact trivial | (exfalso; exact ha rfl)⟩, hagr, by omega, ⟨hos, htape, hout, by omega, fun r hr' hno => hother r (fun e => hno b o hb ho e.symm), Nat.le_of_eq hdr.symm⟩, ?_⟩
  · intro b' x hx ha
    rcases hcase b' x hx ha with ⟨hl, hne, hx'⟩ | ⟨rfl, rfl⟩
    · obtain ⟨y, hy, hyr⟩ := hs.obj b' x hx' ha
      have : (f b).blk ≠ (f b').blk := hs.sep b b' o x hb hx' (rw_alive ho) ha ho (fun e => hne e.symm)
      rw [hag b' hl]
      exact ⟨y, by rw [hother _ (fun e => this e.symm)]; exact hy, hyr.mono (by omega) hagr⟩
    · rw [upd_eq]
      exact ⟨o1', by rw [hI]; exact hw, hr.mono (by omega) hagr⟩
  · intro b1 b2 x1 x2 h1 h2 ha1 ha2 hrw hne
    rcases hcase b1 x1 h1 ha1 with ⟨hl1, hn1, h1'⟩ | ⟨rfl, rfl⟩ <;> rcases hcase b2 x2 h2 ha2 with ⟨hl2, hn2, h2'⟩ | ⟨rfl, rfl⟩
    · rw [hag b1 hl1, hag b2 hl2]; exact hs.sep b1 b2 x1 x2 h1' h2' ha1 ha2 hrw hne
    · rw [hag b1 hl1, upd_eq, hI]
      exact fun e => hs.sep b b1 o x1 hb h1' (rw_alive ho) ha1 ho (fun e => hn1 e.symm) e.symm
    · rw [hag b2 hl2, upd_eq, hI]
      exact hs.sep b b2 o x2 hb h2' (rw_alive ho) ha2 ho (fun e => hn2 e.symm)
    · exact absurd rfl hne
  · intro g hg
    rw [hag g (Nat.lt_of_lt_of_le hg hs.size)]
    exact hs.glob g hg
  · have := hs.size
    omega
  · intro r ds hr
    obtain ⟨⟨elem, fr, k1⟩, k2⟩ := hs.rom r ds hr
    refine ⟨⟨elem, fr, by rw [hother r (k2 b o hb ho).symm]; exact k1⟩, fun b' x hx hrw => ?_⟩
    rcases hcase b' x hx (rw_alive hrw) with ⟨hl, hne, hx'⟩ | ⟨rfl, rfl⟩
    · rw [hag b' hl]; exact k2 b' x hx' hrw
    · rw [upd_eq, hI]; exact k2 b o hb ho
  · intro b1 x1 h1 hrw
    rcases hcase b1 x1 h1 (rw_alive hrw) with ⟨hl, hn, h1'⟩ | ⟨rfl, rfl⟩
    · exact .inr ⟨b1, x1, h1', hrw, by rw [hag b1 hl]⟩
    · exact .inr ⟨b, o, hb, ho, by rw [upd_eq, hI]⟩

theorem Step.kill {P : Program} {f : Emb} {h : AH} {w : World} (hs : Sim P f h w) (b : Nat) : Step P f h w f (h.set b .dead) w := by
  have hcase : ∀ (b' : Nat) (x : AObj), (h.set b .dead)[b']? = some x → x.alive = true → h[b']? = some x := by
    intro b' x hx ha
    by_cases he : b = b'
    · subst he
      by_cases hl : b < h.length
      · rw [List.getElem?_set_self hl] at hx
        cases hx
        simp [AObj.alive] at ha
      · rw [List.getElem?_eq_none (by simpa using hl)] at hx
        cases hx
    · rwa [List.getElem?_set_ne he] at hx
  refine ⟨⟨fun b' x hx ha => by simpa using hs.obj b' x (hcase b' x hx ha) ha, fun b1 b2 x1 x2 h1 h2 ha1 ha2 => hs.sep b1 b2 x1 x2 (hcase _ _ h1 ha1) (hcase _ _ h2 ha2) ha1 ha2, hs.glob, by simpa using hs.size,
    fun r ds hr => ⟨(hs.rom r ds hr).1, fun b' x hx hrw => (hs.rom r ds hr).2 b' x (hcase b' x hx (rw_alive hrw)) hrw⟩, hs.laid, fun b' x hx => by
      by_cases ha : x.alive = true
      · exact hs.ok b' x (hcase b' x hx ha)
      · cases x <;> first | exact trivial | (exfalso; exact ha rfl)⟩, .refl _ _, by simp, Keep.refl _ _ _, fun b1 x1 h1 hrw => .inr ⟨b1, x1, hcase b1 x1 h1 (rw_alive hrw), hrw, rfl⟩⟩

theorem Step.drew {P : Program} {f : Emb} {h : AH} {w : World} (hs : Sim P f h w) : Step P f h w f h w.drew :=
  ⟨hs.congr rfl, .refl _ _, Nat.le_refl _, ⟨rfl, rfl, rfl, Nat.le_refl _, fun _ _ _ => rfl, Nat.le_succ _⟩, fun b o hb ho => .inr ⟨b, o, hb, ho, rfl⟩⟩

theorem getD_blit (vs : List Value) : ∀ (c : Array Value) (o i : Nat), (blit c o vs).getD i junk = if o ≤ i ∧ i < o + vs.length ∧ i < c.size then vs.getD (i - o) junk else c.getD i junk := by
  induction vs with
  | nil => intro c o i; simp only [blit, List.length_nil, Nat.add_zero]; rw [if_neg (by omega)]
  | cons v r ih =>
    intro c o i
    simp only [blit, ih, Array.size_setIfInBounds, List.length_cons]
    by_cases h1 : o + 1 ≤ i ∧ i < o + 1 + r.length ∧ i < c.size
    · rw [if_pos h1, if_pos (by omega)]
      obtain ⟨k, hk⟩ : ∃ k, i - o = k + 1 := ⟨i - o - 1, by omega⟩
      rw [hk]
      have : i - (o + 1) = k := by omega
      rw [this]
      simp
    · rw [if_neg h1]
      by_cases h2 : o ≤ i ∧ i < o + (r.length + 1) ∧ i < c.size
      · rw [if_pos h2]
        have : i = o := by omega
        subst this
        simp [Array.getD, h2.2.2]
      · rw [if_neg h2]
        simp only [Array.getD_eq_getD_getElem?]
        by_cases he : o = i
        · subst he
          have : ¬ o < c.size := by omega
          simp [this]
        · rw [Array.getElem?_setIfInBounds_ne he]

/-- a store into a block of the world -/
theorem run_storeAt {P : Program} {w : World} {r o : Nat} {c : Array Value} {t : TypeId} {fr : Nat × Nat} (hw : w.heap[r]? = some (.cells c t fr)) (hfr : ∀ i : Nat, i < c.size → (fr.1 ≤ i && i < fr.2) = false) (vs : List Value)
    (hle : o + vs.length ≤ c.size) (h1 : ∀ i : Nat, (vs.getD i junk).oneCell' = true) :
    ∃ w1, (storeCells ⟨r, o, none⟩ vs).run P w = .ok () w1 ∧ w1.heap[r]? = some (.cells (blit c o vs) t fr) ∧ (∀ r', r' ≠ r → w1.heap[r']? = w.heap[r']?) ∧
      w1.os = w.os ∧ w1.tape = w.tape ∧ w1.output = w.output ∧ w1.heap.size = w.heap.size ∧ w1.drawn = w.drawn := by
  have hrun := run_storeCells_cells (P := P) r o vs 0 w
    (fun j hj => by rw [cell_of_block hw]; simp; omega)
    (fun j hj => by
      simp only [World.frozen?, hw]
      exact hfr _ (by omega))
    (fun v hv' => by
      obtain ⟨i, hi⟩ := List.mem_iff_getElem?.1 hv'
      have := h1 i
      simpa [List.getD, hi] using this)
  exact ⟨_, hrun, setCells_heap vs hw o⟩

theorem zeroCells_eq (z : Array Value) (n : Nat) : Builtin.zeroCells z n = zeros z (n * z.size) := rfl

def isIntD (d : TypeDesc) : Bool := d matches .int _

/-- what is appended, in the world: so many zeros, or cells that are there -/
def Appended (P : Program) (w : World) (elem : TypeId) (ie : TypeInfo) (zc : Array Value) (d : TypeDesc) (x : Value) (n : Nat) (ds : Array Value) : Prop :=
  (∃ k n0, d = .int k ∧ x = .int .i64 n0 ∧ 0 ≤ n0 ∧ n0 < 2 ^ 62 ∧ n0 * (ie.bytes : Int) ≤ 2 ^ 48 ∧ n = n0.toNat ∧ ds = zeros zc (n * zc.size)) ∨
  (isIntD d = false ∧ (Builtin.lenOf x).run P w = .ok n w ∧ (Builtin.firstCells ie.size n x).run P w = .ok ds w)

theorem sound_appended {P : Program} {f : Emb} {h : AH} {w : World} (hs : Sim P f h w) {elem xT : TypeId} {ie : TypeInfo} {zc : Array Value} (hie : P.info? elem = some ie) (hzc : zeroCellsOf P elem = some zc) {x x' : Value} (hx : VRel f h.length x x')
    {n : Nat} {cs : Array Value} (ha : aappended P h elem xT ie.size x = some (n, cs)) :
    ∃ d, P.underlying xT = some d ∧ ∃ ds, Appended P w elem ie zc d x' n ds ∧ CRel f h.length cs ds ∧ cs.size = n * ie.size := by
  obtain ⟨i, z, hi, hz, hzc', hall, hsz, hpos⟩ := zeroCellsOf_spec hzc
  have hii : i = ie := by rw [hi] at hie; exact Option.some.inj hie
  subst hii
  unfold aappended at ha
  split at ha
  · rename_i k hu
    refine ⟨_, hu, ?_⟩
    split at ha
    · rename_i n0 zc' ie' hzc2 hie2
      rw [hzc] at hzc2
      cases hzc2
      rw [hie] at hie2
      cases hie2
      split at ha
      · rename_i hc
        obtain ⟨c1, c2, c3⟩ := hc
        simp only [Option.some.injEq, Prod.mk.injEq] at ha
        obtain ⟨rfl, rfl⟩ := ha
        cases hx.int_inv
        exact ⟨_, .inl ⟨k, n0, rfl, rfl, c1, c2, c3, rfl, rfl⟩, zeros_crel hall (by omega) _, by rw [size_zeros, hsz]⟩
      · cases ha
    · cases ha
  · rename_i d hni hu
    refine ⟨d, hu, ?_⟩
    have hd : isIntD d = false := by
      cases d <;> first | rfl | (exfalso; exact hni _ rfl)
    obtain ⟨h1, ds, h2, h3, h4⟩ := sound_source hs hx ha
    exact ⟨ds, .inr ⟨hd, h1, h2⟩, h3, h4⟩
  · cases ha

set_option maxRecDepth 4000 in
/-- there is room: what is appended is stored behind what is there -/
theorem append_room {P : Program} (w : World) {ts : Array TypeId} {sT xT ty elem : TypeId} (h0 : ts[0]? = some sT) (h1 : ts[1]? = some xT) (hu : P.underlying sT = some (.slice elem)) {d : TypeDesc} (hd : P.underlying xT = some d)
    {ie : TypeInfo} (hie : P.info? elem = some ie) {z : Value} (hz : ie.zero = some z) (hzs : z.cells.size = ie.size) (base : Option Addr) (len cap : Nat) (x : Value) {n : Nat} {ds : Array Value}
    (hap : Appended P w elem ie z.cells d x n ds) (hcap : len + n ≤ cap) :
    (Builtin.append_ ts ty #[.slice base len cap, x]).run P w = (match base with
      | some a => (storeCells (a.add (len * ie.size)) ds.toList).run P w
      | none => .ok () w).andThen fun _ w' => .ok (.slice base (len + n) cap) w' := by
  have hsz : P.cellsOf elem = ie.size := by simp [Program.cellsOf, hie]
  have hz0 := run_zeroValue hie hz w
  rcases hap with ⟨k, n0, rfl, rfl, c1, c2, c3, rfl, rfl⟩ | ⟨hb, hn, hds⟩
  · have e1 : IntKind.i64.wrap n0 = n0 := wrap_i64 c1 c2
    have e2 : ¬ n0 < 0 := by omega
    have e3 : ¬ (n0 * (ie.bytes : Int) > 2 ^ 48) := by omega
    by_cases h00 : n0.toNat * ie.size = 0
    · have hnil : zeros z.cells (n0.toNat * z.cells.size) = #[] := by rw [hzs, h00]; simp [zeros]
      rw [hnil]
      simp only [Builtin.append_, h0, h1, List.getElem?_toArray, List.getElem?_cons_zero, List.getElem?_cons_succ, Sem.run_bind, run_underlying hu, run_underlying hd, Result.andThen_ok, run_sizeOf w hie, hsz, Sem.run_pure, if_true,
        asInt, asIntOf, e1, e2, if_false, run_typeInfo w hie, e3, hcap, h00, Bool.not_true, Bool.false_eq_true]
      cases base <;> simp only [Sem.run_bind, Sem.run_pure, Result.andThen_ok]
    · simp only [Builtin.append_, h0, h1, List.getElem?_toArray, List.getElem?_cons_zero, List.getElem?_cons_succ, Sem.run_bind, run_underlying hu, run_underlying hd, Result.andThen_ok, run_sizeOf w hie, hsz, Sem.run_pure, if_true,
        asInt, asIntOf, e1, e2, if_false, run_typeInfo w hie, e3, hcap, h00, Bool.not_true, Bool.false_eq_true, hz0, zeroCells_eq]
      cases base <;> simp only [Sem.run_bind, Sem.run_pure, Result.andThen_ok]
  · cases d <;> first
      | (cases hb; done)
      | (simp only [Builtin.append_, h0, h1, List.getElem?_toArray, List.getElem?_cons_zero, List.getElem?_cons_succ, Sem.run_bind, run_underlying hu, run_underlying hd, Result.andThen_ok, run_sizeOf w hie, hsz, Sem.run_pure, Bool.false_eq_true, if_false, hn, hcap, if_true, Bool.not_false, hds]
         cases base <;> simp only [Sem.run_bind, Sem.run_pure, Result.andThen_ok])

set_option maxRecDepth 4000 in
/-- there is none: all is copied -/
theorem append_grow {P : Program} (w : World) {ts : Array TypeId} {sT xT ty elem : TypeId} (h0 : ts[0]? = some sT) (h1 : ts[1]? = some xT) (hu : P.underlying sT = some (.slice elem)) {d : TypeDesc} (hd : P.underlying xT = some d)
    {ie : TypeInfo} (hie : P.info? elem = some ie) {z : Value} (hz : ie.zero = some z) (hzs : z.cells.size = ie.size) (base : Option Addr) (len cap : Nat) (x : Value) {n : Nat} {ds old : Array Value}
    {ds0 : Array Value} (hap : Appended P w elem ie z.cells d x n ds0) (hap2 : Appended P w.drew elem ie z.cells d x n ds) (hcap : cap < len + n) (hb1 : (2 * (len + n) + 192) * ie.bytes ≤ 2 ^ 48) (hb2 : len + n < 2 ^ 62)
    (hold : (Builtin.firstCells ie.size len (.slice base len cap)).run P w.drew = .ok old w.drew) :
    ∃ newCap, len + n ≤ newCap ∧ (Builtin.append_ ts ty #[.slice base len cap, x]).run P w =
      .ok (.slice (some ⟨w.heap.size, 0, none⟩) (len + n) newCap) (w.drew.alloc (.cells (old ++ ds ++ zeros z.cells ((newCap - (len + n)) * z.cells.size)) elem)) := by
  have hsz : P.cellsOf elem = ie.size := by simp [Program.cellsOf, hie]
  have hzw := fun w' => run_zeroValue (P := P) hie hz w'
  have hnc : ¬ (len + n ≤ cap) := by omega
  have hn1 : ¬ (((len + n : Nat) : Int) > IntKind.i64.max) := by
    have : IntKind.i64.max = 9223372036854775807 := by decide
    rw [this]; omega
  have hn2 : ¬ (Builtin.nextslicecap (len + n) cap * ie.bytes > 2 ^ 48) := by
    have h1 := nextslicecap_le (len + n) cap hcap
    have h2 : Builtin.nextslicecap (len + n) cap * ie.bytes ≤ (2 * (len + n) + 192) * ie.bytes := Nat.mul_le_mul_right _ h1
    omega
  refine ⟨(Question.appendCap (len + n) cap elem).cut (w.tape w.drawn (.appendCap (len + n) cap elem)), ?_, ?_⟩
  · simp [Question.cut]
  have hch : ∀ w', (choose (.appendCap (len + n) cap elem)).run P w' = .ok ((Question.appendCap (len + n) cap elem).cut (w'.tape w'.drawn (.appendCap (len + n) cap elem))) w'.drew := by
    intro w'; rw [run_choose]; simp [Question.forced]
  rcases hap with ⟨k, n0, rfl, rfl, c1, c2, c3, rfl, rfl⟩ | ⟨hb, hn, hds⟩
  · have hds3 : ds = zeros z.cells (n0.toNat * z.cells.size) := by
      rcases hap2 with ⟨_, _, _, _, _, _, _, _, h9⟩ | ⟨h1, _⟩
      · exact h9
      · cases h1
    subst hds3
    have e1 : IntKind.i64.wrap n0 = n0 := wrap_i64 c1 c2
    have e2 : ¬ n0 < 0 := by omega
    have e3 : ¬ (n0 * (ie.bytes : Int) > 2 ^ 48) := by omega
    by_cases h00 : n0.toNat * ie.size = 0
    · have hnil : zeros z.cells (n0.toNat * z.cells.size) = #[] := by rw [hzs, h00]; simp [zeros]
      rw [hnil]
      simp only [Builtin.append_, h0, h1, List.getElem?_toArray, List.getElem?_cons_zero, List.getElem?_cons_succ, Sem.run_bind, run_underlying hu, run_underlying hd, Result.andThen_ok, run_sizeOf w hie, hsz, Sem.run_pure, if_true,
        asInt, asIntOf, e1, e2, if_false, run_typeInfo _ hie, e3, hnc, hn1, false_and, hn2, h00, Bool.not_true, Bool.false_eq_true, hch, run_askRoom, hold, hzw, zeroCells_eq, newRow, run_newObj]
      rfl
    · simp only [Builtin.append_, h0, h1, List.getElem?_toArray, List.getElem?_cons_zero, List.getElem?_cons_succ, Sem.run_bind, run_underlying hu, run_underlying hd, Result.andThen_ok, run_sizeOf w hie, hsz, Sem.run_pure, if_true,
        asInt, asIntOf, e1, e2, if_false, run_typeInfo _ hie, e3, hnc, hn1, false_and, hn2, h00, Bool.not_true, Bool.false_eq_true, hch, run_askRoom, hold, hzw, zeroCells_eq, newRow, run_newObj]
      rfl
  · have hds2 : (Builtin.firstCells ie.size n x).run P w.drew = .ok ds w.drew := by
      rcases hap2 with ⟨k, n0, rfl, _⟩ | ⟨_, _, h2⟩
      · cases hb
      · exact h2
    cases d <;> first
      | (cases hb; done)
      | (simp only [Builtin.append_, h0, h1, List.getElem?_toArray, List.getElem?_cons_zero, List.getElem?_cons_succ, Sem.run_bind, run_underlying hu, run_underlying hd, Result.andThen_ok, run_sizeOf w hie, hsz, Sem.run_pure, Bool.false_eq_true, if_false, hn, hnc, hn1, false_and, hn2, if_true, Bool.not_false,
          run_typeInfo _ hie, hch, run_askRoom, hold, hds2, hzw, zeroCells_eq, newRow, run_newObj]
         rfl)

end Go.Am
set_option linter.unusedVariables false
set_option linter.unusedSimpArgs false
/- append: the abstract one is the world's. -/
namespace Go.Am
open Go

theorem getD_append_left' (A B : Array Value) (i : Nat) (h : i < A.size) : (A ++ B).getD i junk = A.getD i junk := by
  have h2 : i < A.size + B.size := by omega
  simp [Array.getD, h, h2, Array.getElem_append]

theorem getD_append_right' (A B : Array Value) (i : Nat) (h : A.size ≤ i) : (A ++ B).getD i junk = B.getD (i - A.size) junk := by
  by_cases h3 : i < A.size + B.size
  · have h4 : i - A.size < B.size := by omega
    have h5 : ¬ i < A.size := by omega
    simp [Array.getD, h3, h4, Array.getElem_append, h5]
  · rw [getD_ge i (by simpa using h3), getD_ge _ (by omega)]

theorem CRel.append {f : Emb} {L : Nat} {A A' B B' : Array Value} (h : CRel f L A A') (k : CRel f L B B') : CRel f L (A ++ B) (A' ++ B') := by
  refine ⟨by simp [h.1, k.1], fun i => ?_⟩
  by_cases hi : i < A.size
  · rw [getD_append_left' _ _ _ hi, getD_append_left' _ _ _ (h.1 ▸ hi)]; exact h.2 i
  · rw [getD_append_right' _ _ _ (by omega), getD_append_right' _ _ _ (by have := h.1; omega), h.1]; exact k.2 _

theorem orel_grown {f : Emb} {L : Nat} {A B Z : Array Value} {es r : Nat} {elem : TypeId} (h : CRel f L A B) (htag : tagN ≤ es → es = tagN + elem) :
    ORel f L ⟨r, 0, A.size, A.size + Z.size, es⟩ (.cells A es true) (.cells (B ++ Z) elem (0, 0)) := by
  refine ⟨_, _, _, rfl, rfl, rfl, by simp, fun _ => ⟨by simp [h.1], NoFr.zero _, fun h2 => ⟨htag h2, rfl, by simp [h.1]⟩⟩, by simp [h.1], fun i hi => ?_⟩
  simp only [Nat.zero_add]
  rw [getD_append_left' _ _ _ (h.1 ▸ hi)]
  exact h.2 i

theorem Step.after_drew {P : Program} {f f1 : Emb} {h h1 : AH} {w w1 : World} (hs : Sim P f h w) (s : Step P f h w.drew f1 h1 w1) : Step P f h w f1 h1 w1 :=
  (Step.drew hs).trans s

theorem sound_append {P : Program} {f : Emb} {h : AH} {w : World} (hs : Sim P f h w) {ts : Array TypeId} {sT xT ty : TypeId} (h0 : ts[0]? = some sT) (h1 : ts[1]? = some xT) {s s' x x' : Value} (hS : VRel f h.length s s') (hx : VRel f h.length x x')
    {r : Value} {h2 : AH} (ha : aappend P h sT xT s x = some (r, h2)) :
    ∃ f1 r' w1, (Builtin.append_ ts ty #[s', x']).run P w = .ok r' w1 ∧ Step P f h w f1 h2 w1 ∧ VRel f1 h2.length r r' := by
  unfold aappend at ha
  split at ha
  case h_2 => cases ha
  rename_i elem hu
  split at ha
  case h_2 => cases ha
  rename_i ie zc hie hzc
  obtain ⟨i, z, hi, hz, hzc', hall, hsz, hpos⟩ := zeroCellsOf_spec hzc
  have hii : i = ie := by rw [hi] at hie; exact Option.some.inj hie
  subst hii
  subst hzc'
  split at ha
  case h_2 => cases ha
  rename_i n new hap
  obtain ⟨d, hd, ds, hA, hcr, hsize⟩ := sound_appended hs hie hzc hx hap
  have hsd : Sim P f h w.drew := hs.congr rfl
  obtain ⟨d2, hd2, ds2, hA2, hcr2, _⟩ := sound_appended hsd hie hzc hx hap
  have hdd : d2 = d := by rw [hd] at hd2; exact (Option.some.inj hd2).symm
  subst hdd
  -- all is copied
  have grow : ∀ (es : Nat) (hes : szOf es = i.size) (htag : tagN ≤ es → es = tagN + elem) (base : Option Addr) (len cap : Nat) (hk : AH) (old : Array Value) (oldA : Array Value), Step P f h w.drew f hk w.drew → hk.length = h.length → cap < len + n → (2 * (len + n) + 192) * i.bytes ≤ 2 ^ 48 → len + n < 2 ^ 62 →
      (Builtin.firstCells i.size len (.slice base len cap)).run P w.drew = .ok old w.drew → CRel f h.length oldA old → oldA.size = len * i.size →
      ∃ f1 r' w1, (Builtin.append_ ts ty #[.slice base len cap, x']).run P w = .ok r' w1 ∧ Step P f h w f1 (hk ++ [.cells (oldA ++ new) es true]) w1 ∧ VRel f1 (h.length + 1) (.slice (some ⟨h.length, 0, none⟩) (len + n) (len + n)) r' := by
    intro es hes htag base len cap hk old oldA hst hkl hcap hb1 hb2 hold hco hso
    obtain ⟨newCap, hnc, hrun⟩ := append_grow w h0 h1 hu hd hie hz hsz base len cap x' hA hA2 hcap hb1 hb2 hold
    have hnew := hco.append hcr2
    have hAsz : (oldA ++ new).size = (len + n) * i.size := by simp [hso, hsize, Nat.add_mul]
    have hzsz : (zeros z.cells ((newCap - (len + n)) * z.cells.size)).size = (newCap - (len + n)) * i.size := by rw [size_zeros, hsz]
    have halloc := Step.alloc hst.sim (.cells (oldA ++ new) es true) (.cells (old ++ ds2 ++ zeros z.cells ((newCap - (len + n)) * z.cells.size)) elem)
      ⟨w.drew.heap.size, 0, (oldA ++ new).size, (oldA ++ new).size + (zeros z.cells ((newCap - (len + n)) * z.cells.size)).size, es⟩ rfl (by rw [hkl]; exact orel_grown hnew htag)
    refine ⟨_, _, _, hrun, Step.after_drew hs (hst.trans halloc), ?_⟩
    refine .slice h.length 0 _ _ _ _ _ (by omega) ?_ ?_ (.inr ⟨?_, ?_, ?_, by omega⟩)
    · rw [← hkl, upd_eq]; rfl
    · rw [← hkl, upd_eq]
    · rw [← hkl, upd_eq]; simp only [hes]; omega
    · rw [← hkl, upd_eq]; simp only [hAsz, hes]; omega
    · rw [← hkl, upd_eq]; simp only [hAsz, hzsz, hes]
      rw [← Nat.add_mul]
      have : len + n + (newCap - (len + n)) = newCap := by omega
      rw [this]; omega
  split at ha
  · -- nil
    have hS' : s' = .slice none 0 0 := plain_inv rfl hS
    subst hS'
    split at ha
    · rename_i hn0
      subst hn0
      simp only [Option.some.injEq, Prod.mk.injEq] at ha
      obtain ⟨rfl, rfl⟩ := ha
      refine ⟨f, .slice none 0 0, w, ?_, Step.refl hs, .nilSlice 0 0⟩
      rw [append_room w h0 h1 hu hd hie hz hsz none 0 0 x' hA (by omega)]
      rfl
    · rename_i hn0
      split at ha
      · rename_i hb
        simp only [Option.some.injEq, Prod.mk.injEq] at ha
        obtain ⟨rfl, rfl⟩ := ha
        obtain ⟨f1, r', w1, g1, g2, g3⟩ := grow i.size (szOf_lt (by have := (zeroCellsOf_tag hzc).1; omega)) (fun hh => absurd hh (by have := (zeroCellsOf_tag hzc).1; omega)) none 0 0 h #[] #[] (Step.refl hsd) rfl (by omega) (by simpa using hb.1) (by omega) rfl crel_nil (by simp)
        refine ⟨f1, r', w1, g1, by simpa using g2, by simpa using g3⟩
      · cases ha
  · rename_i xs ks
    split at ha
    case isFalse => cases ha
    rename_i hxk
    obtain ⟨hx0, hk0, hi1⟩ := hxk
    have hxs : xs = #[] := Array.eq_empty_of_size_eq_zero hx0
    have hks : ks = #[] := Array.eq_empty_of_size_eq_zero hk0
    subst hxs; subst hks
    obtain ⟨rfl, _, _⟩ := hS.bnil_inv
    split at ha
    · rename_i hn0
      subst hn0
      simp only [Option.some.injEq, Prod.mk.injEq] at ha
      obtain ⟨rfl, rfl⟩ := ha
      refine ⟨f, .slice none 0 0, w, ?_, Step.refl hs, .bnil⟩
      rw [append_room w h0 h1 hu hd hie hz hsz none 0 0 x' hA (by omega)]
      rfl
    · rename_i hn0
      split at ha
      · rename_i hb
        simp only [Option.some.injEq, Prod.mk.injEq] at ha
        obtain ⟨rfl, rfl⟩ := ha
        obtain ⟨f1, r', w1, g1, g2, g3⟩ := grow (tagN + elem) (by rw [szOf_tag, hi1]) (fun _ => rfl) none 0 0 h #[] #[] (Step.refl hsd) rfl (by omega) (by simpa using hb.1) (by omega) rfl crel_nil (by simp)
        refine ⟨f1, r', w1, g1, by simpa using g2, by simpa using g3⟩
      · cases ha
  · rename_i b o len cap
    split at ha
    · rename_i hn0
      obtain ⟨hn0, hlc⟩ := hn0
      subst hn0
      simp only [Option.some.injEq, Prod.mk.injEq] at ha
      obtain ⟨rfl, rfl⟩ := ha
      have hds : ds = #[] := by
        have := hcr.1
        exact Array.eq_empty_of_size_eq_zero (by rw [← this, hsize]; simp)
      subst hds
      rcases hS.slice_inv with ⟨cap', rfl, hbL, hc⟩ | ⟨rfl, rfl, a', rfl, _⟩
      · have hcc : cap ≤ cap' := hc.le
        refine ⟨f, _, w, ?_, Step.refl hs, hS⟩
        rw [append_room w h0 h1 hu hd hie hz hsz _ len cap' x' hA (by omega)]
        rfl
      · refine ⟨f, _, w, ?_, Step.refl hs, hS⟩
        rw [append_room w h0 h1 hu hd hie hz hsz _ 0 0 x' hA (by omega)]
        rfl
    · rename_i hne
      split at ha
      · rename_i c es hb
        split at ha
        · rename_i hc1
          obtain ⟨hle, hes⟩ := hc1
          obtain ⟨o', ho', hrel⟩ := hs.obj b _ hb rfl
          have hrel0 := hrel
          obtain ⟨c', elem', fr, rfl, q2, q3, q4, q5, q6, q7⟩ := hrel
          obtain ⟨hN, hfr⟩ := q5 rfl
          obtain ⟨olds, ho1, ho2, ho3, ho4⟩ := hsd.loadCells hb o (len * i.size) hle
          have hold : CRel f h.length (c.extract o (o + len * i.size)) olds := ⟨by simp; omega, fun j => ⟨ho3 j, ho4 j⟩⟩
          split at ha
          · -- there is room, by what is known
            rename_i hroom
            split at ha
            · rename_i hfit
              simp only [Option.some.injEq, Prod.mk.injEq] at ha
              obtain ⟨rfl, rfl⟩ := ha
              have hlist := hcr.list
              have hnl : new.toList.length = n * i.size := by simpa using hsize
              obtain ⟨w1, k1, k2⟩ := sound_storeCells hs hb (o := o + len * i.size) (vs := new.toList) (vs' := ds.toList) hlist.1 (by rw [hnl, Nat.add_assoc, ← Nat.add_mul]; exact hfit) hlist.2
              have hlen2 : (h.set b (.cells (blit c (o + len * i.size) new.toList) es true)).length = h.length := by simp
              rcases hS.slice_inv with ⟨cap', rfl, hbL, hc⟩ | ⟨rfl, rfl, a', rfl, _⟩
              · have hcc : cap ≤ cap' := hc.le
                refine ⟨f, .slice (some ⟨(f b).blk, (f b).off + o, none⟩) (len + n) cap', w1, ?_, k2, by rw [hlen2]; exact .slice b _ _ _ _ _ _ hbL rfl rfl hc⟩
                rw [append_room w h0 h1 hu hd hie hz hsz _ len cap' x' hA (by omega)]
                simp only [addr_add]
                rw [Nat.add_assoc, k1]
                rfl
              · exfalso; omega
            · cases ha
          · rename_i hroom
            split at ha
            · rename_i hbd
              obtain ⟨hb1, hb2⟩ := hbd
              simp only [Option.some.injEq, Prod.mk.injEq] at ha
              obtain ⟨rfl, rfl⟩ := ha
              have hlenr : (h.set b .dead ++ [AObj.cells (c.extract o (o + len * i.size) ++ new) es true]).length = h.length + 1 := by simp
              rw [hlenr]
              have hextsz : (c.extract o (o + len * i.size)).size = len * i.size := by simp; omega
              rcases hS.slice_inv with ⟨cap', rfl, hbL, hc⟩ | ⟨rfl, rfl, a', rfl, _⟩
              · by_cases hreal : len + n ≤ cap'
                · -- the world has room, which the abstract heap does not know
                  rcases hc with rfl | ⟨k1, k2, k3, k4⟩
                  · omega
                  rw [← q3, hes.szOf] at k1 k2 k3
                  have hfits : (f b).off + (o + len * i.size) + ds.toList.length ≤ c'.size := by
                    have e1 : ds.toList.length = n * i.size := by have := hcr.1; simp; omega
                    have e2 : (len + n) * i.size ≤ cap' * i.size := Nat.mul_le_mul_right _ hreal
                    rw [Nat.add_mul] at e2
                    omega
                  obtain ⟨w1, g1, g2, g3, g4, g5, g6, g7, g8⟩ := run_storeAt (P := P) ho' hfr.at ds.toList hfits (hcr.list.2 · |>.2)
                  have hAsz : (c.extract o (o + len * i.size) ++ new).size = (len + n) * i.size := by simp only [Array.size_append, hextsz, hsize, Nat.add_mul]
                  have e2 : (len + n) * i.size ≤ cap' * i.size := Nat.mul_le_mul_right _ hreal
                  have horel : ORel f h.length ⟨(f b).blk, (f b).off + o, (len + n) * i.size, (f b).N, es⟩ (.cells (c.extract o (o + len * i.size) ++ new) es true) (.cells (blit c' ((f b).off + (o + len * i.size)) ds.toList) elem' fr) := by
                    refine ⟨_, _, _, rfl, hAsz, rfl, by simp only; omega, fun _ => ⟨by rw [size_blit]; exact hN, by rw [size_blit]; exact ⟨hfr.nofr, fun h2 => by have h3 := hfr.tag h2; have h4 := hes.tag h2; exact ⟨h3.1, by simp only; omega, h3.2.2⟩⟩⟩, by rw [size_blit]; simp only; omega, fun j hj => ?_⟩
                    rw [hAsz] at hj
                    have hdl : ds.toList.length = n * i.size := by have := hcr.1; simp; omega
                    rw [getD_blit]
                    by_cases hjl : j < len * i.size
                    · rw [getD_append_left' _ _ _ (by omega), getD_extract _ _ _ _ hle, if_pos hjl, if_neg (by simp only; omega)]
                      have := q7 (o + j) (by omega)
                      simpa [Nat.add_assoc] using this
                    · rw [getD_append_right' _ _ _ (by omega), hextsz, if_pos (by simp only; rw [Nat.add_mul] at hj e2; omega)]
                      have e4 : (f b).off + o + j - ((f b).off + (o + len * i.size)) = j - len * i.size := by omega
                      simp only [e4]
                      have := hcr.list.2 (j - len * i.size)
                      simpa [Array.getD_eq_getD_getElem?, List.getD] using this
                  have hmv := Step.move hs hb rfl ⟨(f b).blk, (f b).off + o, (len + n) * i.size, (f b).N, es⟩ rfl ok_cells g2 horel g3 g4 g5 g6 g7 g8
                  refine ⟨_, .slice (some ⟨(f b).blk, (f b).off + o, none⟩) (len + n) cap', w1, ?_, hmv, ?_⟩
                  · rw [append_room w h0 h1 hu hd hie hz hsz _ len cap' x' hA hreal]
                    simp only [addr_add]
                    rw [Nat.add_assoc, g1]
                    rfl
                  · refine .slice h.length 0 _ _ _ _ _ (by omega) ?_ ?_ (.inr ⟨?_, ?_, ?_, by omega⟩)
                    · rw [upd_eq]
                    · rw [upd_eq]; rfl
                    · rw [upd_eq]; simp only [hes.szOf]; exact k1
                    · rw [upd_eq]; simp [hes.szOf]
                    · rw [upd_eq]; simp only [hes.szOf]; omega
                · obtain ⟨f1, r', w1, g1, g2, g3⟩ := grow es hes.szOf (fun h2 => (hes.tag h2).1) (some ⟨(f b).blk, (f b).off + o, none⟩) len cap' (h.set b .dead) olds _ (Step.kill hsd b) (by simp) (by omega) hb1 hb2 (by simpa [Builtin.firstCells] using ho1) hold hextsz
                  exact ⟨f1, r', w1, g1, g2, g3⟩
              · have e0 : c.extract o (o + 0 * i.size) = #[] := by simp; omega
                obtain ⟨f1, r', w1, g1, g2, g3⟩ := grow es hes.szOf (fun h2 => (hes.tag h2).1) (some a') 0 0 (h.set b .dead) #[] #[] (Step.kill hsd b) (by simp) (by omega) hb1 hb2 (by simp [Builtin.firstCells, run_loadCells_zero]) crel_nil (by simp)
                rw [e0]
                exact ⟨f1, r', w1, g1, g2, g3⟩
            · cases ha
        · cases ha
      · cases ha
  · cases ha

end Go.Am
