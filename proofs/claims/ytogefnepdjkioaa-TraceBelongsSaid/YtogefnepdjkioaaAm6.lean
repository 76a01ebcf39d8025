import Derived.Test.YtogefnepdjkioaaAm5
set_option linter.unusedVariables false
set_option linter.unusedSimpArgs false
/- append, copy, make. -/
namespace Go.Am
open Go

/-- what is handed to append or copy: how many, and the cells -/
def asource (h : AH) (size : Nat) : Value → Option (Nat × Array Value)
  | .slice (some ⟨b, o, none⟩) n _ => if n = 0 then some (0, #[]) else match h[b]? with
    | some (.cells c _ _) => if o + n * size ≤ c.size then some (n, c.extract o (o + n * size)) else none
    | _ => none
  | .slice none n _ => if n = 0 then some (0, #[]) else none
  | .string s => if size = 1 then some (s.size, s.data.map fun b => .int .u8 b.toNat) else none
  | .func (.yield 0) cs ks => match fzN ks with
    | some n => if n * size ≤ cs.size then some (n, cs.extract 0 (n * size)) else none
    | none => none
  | _ => none

theorem crel_nil {f : Emb} {L : Nat} : CRel f L #[] #[] := ⟨rfl, fun i => by simp; exact ⟨.junk _, rfl⟩⟩

theorem crel_plain {f : Emb} {L : Nat} {c : Array Value} (h : c.all plain1 = true) : CRel f L c c := by
  refine ⟨rfl, fun i => ?_⟩
  by_cases hi : i < c.size
  · have := getD_all h i hi
    exact ⟨plain1_refl this, plain1_one this⟩
  · rw [getD_ge i hi]; exact ⟨.junk _, rfl⟩

theorem bytes_crel {f : Emb} {L : Nat} (s : ByteArray) : CRel f L (s.data.map fun b => Value.int .u8 b.toNat) (s.data.map fun b => Value.int .u8 b.toNat) :=
  crel_plain (by rw [Array.all_eq_true]; intro i hi; simp [plain1])

theorem run_loadCells_zero {P : Program} (w : World) (a : Addr) : (loadCells a 0).run P w = .ok #[] w := rfl

/-- the first m of them -/
theorem sound_first {P : Program} {f : Emb} {h : AH} {w : World} (hs : Sim P f h w) {size : Nat} {x x' : Value} (hx : VRel f h.length x x') {n : Nat} {cs : Array Value} (ha : asource h size x = some (n, cs)) (m : Nat) (hm : m ≤ n) :
    (Builtin.lenOf x').run P w = .ok n w ∧ ∃ ds, (Builtin.firstCells size m x').run P w = .ok ds w ∧ CRel f h.length (cs.extract 0 (m * size)) ds ∧ cs.size = n * size := by
  unfold asource at ha
  split at ha
  · rename_i b o n' cap
    split at ha
    · rename_i hz
      simp only [Option.some.injEq, Prod.mk.injEq] at ha
      obtain ⟨rfl, rfl⟩ := ha
      subst hz
      have hm0 : m = 0 := by omega
      subst hm0
      rcases hx.slice_inv with ⟨c', rfl, _, _⟩ | ⟨_, _, a', rfl, _⟩
      · exact ⟨rfl, #[], by simp [Builtin.firstCells, run_loadCells_zero], by simpa using crel_nil, by simp⟩
      · exact ⟨rfl, #[], by simp [Builtin.firstCells, run_loadCells_zero], by simpa using crel_nil, by simp⟩
    · rename_i hnz
      split at ha
      · rename_i c es rw hb
        split at ha
        · rename_i hle
          simp only [Option.some.injEq, Prod.mk.injEq] at ha
          obtain ⟨rfl, rfl⟩ := ha
          rcases hx.slice_inv with ⟨c', rfl, hbL, hc⟩ | ⟨h0, _, _, _, _⟩
          · have hmle : m * size ≤ n' * size := Nat.mul_le_mul_right _ hm
            obtain ⟨ds, h1, h2, h3, h4⟩ := hs.loadCells hb o (m * size) (by omega)
            refine ⟨rfl, ds, by simpa [Builtin.firstCells] using h1, ?_, by simp; omega⟩
            have e : (c.extract o (o + n' * size)).extract 0 (m * size) = c.extract o (o + m * size) := by
              simp only [Array.extract_extract, Nat.add_zero]
              congr 1
              omega
            rw [e]
            exact ⟨by simp; omega, fun i => ⟨h3 i, h4 i⟩⟩
          · exact absurd h0 hnz
        · cases ha
      · cases ha
  · rename_i n' cap
    split at ha
    · rename_i hz
      simp only [Option.some.injEq, Prod.mk.injEq] at ha
      obtain ⟨rfl, rfl⟩ := ha
      subst hz
      have hm0 : m = 0 := by omega
      subst hm0
      have hx' : x' = .slice none 0 cap := plain_inv rfl hx
      subst hx'
      exact ⟨rfl, #[], by simp [Builtin.firstCells], by simpa using crel_nil, by simp⟩
    · cases ha
  · rename_i s
    split at ha
    case isFalse => cases ha
    rename_i hone
    subst hone
    simp only [Option.some.injEq, Prod.mk.injEq] at ha
    obtain ⟨rfl, rfl⟩ := ha
    cases hx.string_inv
    have he : ((s.extract 0 m).data.map fun b => Value.int .u8 b.toNat) = (s.data.map fun b => Value.int .u8 b.toNat).extract 0 (m * 1) := by
      rw [Nat.mul_one, ByteArray.data_extract]
      apply Array.ext
      · simp
      · intro i h1 h2
        simp
    refine ⟨rfl, _, rfl, ?_, by rw [Array.size_map, Nat.mul_one]; rfl⟩
    rw [he]
    exact crel_plain (by
      rw [Array.all_eq_true]
      intro i hi
      simp [plain1])
  · rename_i c ks
    obtain ⟨n0, rfl, hcz⟩ := hx.fz_inv
    rw [fzN_lit] at ha
    simp only at ha
    split at ha
    case isFalse => cases ha
    rename_i hle1
    simp only [Option.some.injEq, Prod.mk.injEq] at ha
    obtain ⟨rfl, rfl⟩ := ha
    have hmle : m * size ≤ n0 * size := Nat.mul_le_mul_right _ hm
    have e : (c.extract 0 (n0 * size)).extract 0 (m * size) = c.extract 0 (m * size) := by
      simp only [Array.extract_extract, Nat.add_zero]
      congr 1
      omega
    rw [e]
    rcases hcz with ⟨r0, o0, c0, ds, rfl, hrom, hle, hn, hxy, hone⟩ | ⟨rfl, rfl, a, c0, rfl⟩
    · obtain ⟨ds1, h1, h2, h3, h4⟩ := (hs.heldRom hrom hle hxy hone).loadCells (P := P) 0 (m * size) (by omega)
      simp only [Nat.zero_add, Nat.add_zero] at h1 h3
      exact ⟨rfl, ds1, by simpa [Builtin.firstCells] using h1, ⟨by simp; omega, fun i => ⟨h3 i, h4 i⟩⟩, by simp; omega⟩
    · have hm0 : m = 0 := by omega
      subst hm0
      exact ⟨rfl, #[], by simp [Builtin.firstCells, run_loadCells_zero], by simpa using crel_nil, by simp⟩
  · cases ha

theorem extract_self (cs : Array Value) (n : Nat) (h : cs.size = n) : cs.extract 0 n = cs := by subst h; simp

theorem sound_source {P : Program} {f : Emb} {h : AH} {w : World} (hs : Sim P f h w) {size : Nat} {x x' : Value} (hx : VRel f h.length x x') {n : Nat} {cs : Array Value} (ha : asource h size x = some (n, cs)) :
    (Builtin.lenOf x').run P w = .ok n w ∧ ∃ ds, (Builtin.firstCells size n x').run P w = .ok ds w ∧ CRel f h.length cs ds ∧ cs.size = n * size := by
  obtain ⟨h1, ds, h2, h3, h4⟩ := sound_first hs hx ha n (Nat.le_refl _)
  rw [extract_self cs _ h4] at h3
  exact ⟨h1, ds, h2, h3, h4⟩

/-! ### copy -/
def acopy (P : Program) (h : AH) (dT : TypeId) (dst src : Value) : Option (Value × AH) :=
  match P.underlying dT with
  | some (.slice elem) => match P.info? elem with
    | some ie => match asource h ie.size src with
      | some (n, cs) => match dst with
          | .slice (some ⟨b, o, none⟩) dLen _ =>
            if min n dLen * ie.size = 0 then some (.int .i64 (min n dLen : Nat), h) else match h[b]? with
            | some (.cells c es true) => if o + min n dLen * ie.size ≤ c.size then some (.int .i64 (min n dLen : Nat), h.set b (.cells (blit c o (cs.extract 0 (min n dLen * ie.size)).toList) es true)) else none
            | _ => none
          | .slice none 0 _ => some (.int .i64 0, h)
          | _ => none
      | none => none
    | none => none
  | _ => none

theorem sound_copy {P : Program} {f : Emb} {h : AH} {w : World} (hs : Sim P f h w) {ts : Array TypeId} {dT ty : TypeId} (hts : ts[0]? = some dT) {dst dst' src src' : Value} (hd : VRel f h.length dst dst') (hx : VRel f h.length src src')
    {r : Value} {h1 : AH} (ha : acopy P h dT dst src = some (r, h1)) :
    ∃ r' w1, (Builtin.copy_ ts ty #[dst', src']).run P w = .ok r' w1 ∧ Step P f h w f h1 w1 ∧ VRel f h1.length r r' := by
  unfold acopy at ha
  split at ha
  · rename_i elem hu
    split at ha
    · rename_i ie hie
      have hsz : P.cellsOf elem = ie.size := by simp [Program.cellsOf, hie]
      split at ha
      · rename_i n cs hsrc
        split at ha
        · rename_i b o dLen dCap
          obtain ⟨l1, ds, l2, l3, l4⟩ := sound_first hs hx hsrc (min n dLen) (Nat.min_le_left _ _)
          split at ha
          · rename_i hzero
            simp only [Option.some.injEq, Prod.mk.injEq] at ha
            obtain ⟨rfl, rfl⟩ := ha
            have hds : ds = #[] := by
              have := l3.1
              rw [hzero] at this
              exact Array.eq_empty_of_size_eq_zero (by simp at this; omega)
            subst hds
            have key : ∀ (a' : Addr) (c' : Nat), (Builtin.copy_ ts ty #[.slice (some a') dLen c', src']).run P w = .ok (.int .i64 (min n dLen : Nat)) w := by
              intro a' c'
              have e1 : Nat.min n dLen = min n dLen := rfl
              simp only [Builtin.copy_, hts, List.getElem?_toArray, List.getElem?_cons_zero, List.getElem?_cons_succ, Sem.run_bind, run_underlying hu, Result.andThen_ok, l1, run_sizeOf w hie, hsz, e1, l2, storeCells, Sem.run_pure, goInt]
            rcases hd.slice_inv with ⟨c', rfl, _, _⟩ | ⟨h0, _, a', rfl, _⟩
            · exact ⟨_, w, key _ c', Step.refl hs, .int _ _⟩
            · subst h0; exact ⟨_, w, key a' 0, Step.refl hs, .int _ _⟩
          · rename_i hnz
            split at ha
            · rename_i c es hb
              split at ha
              · rename_i hle
                simp only [Option.some.injEq, Prod.mk.injEq] at ha
                obtain ⟨rfl, rfl⟩ := ha
                rcases hd.slice_inv with ⟨c', rfl, _, _⟩ | ⟨h0, _, a', rfl, _⟩
                · have hc := l3.list
                  have hlen : (cs.extract 0 (min n dLen * ie.size)).toList.length = min n dLen * ie.size := by
                    have : min n dLen * ie.size ≤ n * ie.size := Nat.mul_le_mul_right _ (Nat.min_le_left _ _)
                    simp; omega
                  obtain ⟨w1, k1, k2⟩ := sound_storeCells hs hb (o := o) (vs := (cs.extract 0 (min n dLen * ie.size)).toList) (vs' := ds.toList) hc.1 (by rw [hlen]; exact hle) hc.2
                  refine ⟨.int .i64 (min n dLen : Nat), w1, ?_, k2, .int _ _⟩
                  have e1 : Nat.min n dLen = min n dLen := rfl
                  simp only [Builtin.copy_, hts, List.getElem?_toArray, List.getElem?_cons_zero, List.getElem?_cons_succ, Sem.run_bind, run_underlying hu, Result.andThen_ok, l1, run_sizeOf w hie, hsz, e1, l2, k1, Sem.run_pure, goInt]
                · exfalso; subst h0; simp at hnz
              · cases ha
            · cases ha
        · rename_i dCap
          simp only [Option.some.injEq, Prod.mk.injEq] at ha
          obtain ⟨rfl, rfl⟩ := ha
          have hd' : dst' = .slice none 0 dCap := plain_inv rfl hd
          subst hd'
          obtain ⟨l1, ds, l2, l3, l4⟩ := sound_first hs hx hsrc 0 (Nat.zero_le _)
          refine ⟨.int .i64 0, w, ?_, Step.refl hs, .int _ _⟩
          have e1 : Nat.min n 0 = 0 := Nat.min_zero n
          simp only [Builtin.copy_, hts, List.getElem?_toArray, List.getElem?_cons_zero, List.getElem?_cons_succ, Sem.run_bind, run_underlying hu, Result.andThen_ok, l1, run_sizeOf w hie, hsz, e1, l2, Sem.run_pure, goInt]
          rfl
        · cases ha
      · cases ha
    · cases ha
  · cases ha

/-! ### make -/
def amakeSlice (P : Program) (h : AH) (t : TypeId) (l c : Value) : Option (Value × AH) :=
  match P.underlying t, l, c with
  | some (.slice elem), .int .i64 len, .int .i64 cap => match zeroCellsOf P elem, P.info? elem with
    | some zc, some ie => if 0 ≤ len ∧ len ≤ cap ∧ cap < 2 ^ 62 ∧ ie.bytes * cap ≤ 2 ^ 48 then
        some (.slice (some ⟨h.length, 0, none⟩) len.toNat cap.toNat, h ++ [.cells (zeros zc (cap.toNat * zc.size)) zc.size true]) else none
    | _, _ => none
  | _, _, _ => none

theorem wrap_i64 {n : Int} (h0 : 0 ≤ n) (h1 : n < 2 ^ 62) : IntKind.i64.wrap n = n := by
  have h2 : (2 : Int) ^ 62 = 4611686018427387904 := by decide
  rw [h2] at h1
  exact IntWalk.i64_in n (by omega)

theorem sound_makeSlice {P : Program} {f : Emb} {h : AH} {w : World} (hs : Sim P f h w) (t : TypeId) {l l' c c' : Value} (hl : VRel f h.length l l') (hc : VRel f h.length c c')
    {r : Value} {h1 : AH} (ha : amakeSlice P h t l c = some (r, h1)) :
    ∃ f1 r' w1, (Instr.makeSlice t l' c').run P w = .ok r' w1 ∧ Step P f h w f1 h1 w1 ∧ VRel f1 h1.length r r' := by
  unfold amakeSlice at ha
  split at ha
  · rename_i elem len cap hu
    cases hl.int_inv
    cases hc.int_inv
    split at ha
    · rename_i zc ie hzc hie
      obtain ⟨i, z, hi, hz, hzc', hall, hsz, hpos⟩ := zeroCellsOf_spec hzc
      have hii : i = ie := by rw [hi] at hie; exact Option.some.inj hie
      subst hii
      split at ha
      · rename_i hcond
        obtain ⟨c1, c2, c3, c4⟩ := hcond
        simp only [Option.some.injEq, Prod.mk.injEq] at ha
        obtain ⟨rfl, rfl⟩ := ha
        have hcs : P.cellsOf elem = zc.size := by simp [Program.cellsOf, hi, hsz]
        have hcr := zeros_crel (f := f) (L := h.length) hall (by omega) (cap.toNat * zc.size)
        have hst := Step.alloc hs (.cells (zeros zc (cap.toNat * zc.size)) zc.size true) (.cells (zeros zc (cap.toNat * zc.size)) elem) ⟨w.heap.size, 0, (zeros zc (cap.toNat * zc.size)).size, (zeros zc (cap.toNat * zc.size)).size, zc.size⟩ rfl (cells_orel hcr.1 hcr.2 true)
        refine ⟨_, .slice (some ⟨w.heap.size, 0, none⟩) len.toNat cap.toNat, _, ?_, hst, ?_⟩
        · have w1 : IntKind.i64.wrap len = len := wrap_i64 c1 (by omega)
          have w2 : IntKind.i64.wrap cap = cap := wrap_i64 (by omega) c3
          have b2 : (decide (cap < 0) || decide ((i.bytes : Int) * cap > 2 ^ 48) || decide (len < 0) || decide (len > cap)) = false := by
            simp only [Bool.or_eq_false_iff, decide_eq_false_iff_not]
            omega
          simp only [Instr.makeSlice, Sem.run_bind, run_underlying hu, Result.andThen_ok, asInt, asIntOf, Sem.run_pure, run_typeInfo w hi, w1, w2, b2, Bool.false_eq_true, if_false, run_askRoom, run_sizeOf w hi, hcs]
          by_cases h0 : cap.toNat * zc.size = 0
          · have e0 : (Array.range 0).map (fun x => (#[] : Array Value)[x % (#[] : Array Value).size]!) = zeros zc 0 := by simp [zeros]
            simp only [Sem.run_bind, Sem.run_pure, Result.andThen_ok, Sem.run_ite, h0, if_true, newRow, run_newObj, e0]
            rfl
          · have e1 : (Array.range (cap.toNat * zc.size)).map (fun x => zc[x % zc.size]!) = zeros zc (cap.toNat * zc.size) := rfl
            simp only [Sem.run_bind, Sem.run_pure, Result.andThen_ok, Sem.run_ite, h0, if_false, run_zeroValue hi hz, hzc', newRow, run_newObj, e1]
            rfl
        · have := new_slice (f1 := upd f h.length ⟨w.heap.size, 0, (zeros zc (cap.toNat * zc.size)).size, (zeros zc (cap.toNat * zc.size)).size, zc.size⟩) (L := h.length) (upd_eq _ _ _) rfl len.toNat cap.toNat cap.toNat (.inl rfl)
          simpa using this
      · cases ha
    · cases ha
  · cases ha

/-! ### append -/
theorem growBy_le (n : Nat) : ∀ (r c : Nat), c ≤ 2 * n + 192 → Builtin.growBy n r c ≤ 2 * n + 192
  | 0, c, h => by simpa [Builtin.growBy] using h
  | r + 1, c, h => by
    unfold Builtin.growBy
    split
    · exact h
    · exact growBy_le n r _ (by omega)

theorem nextslicecap_le (need c : Nat) (h : c < need) : Builtin.nextslicecap need c ≤ 2 * need + 192 := by
  unfold Builtin.nextslicecap
  split
  · omega
  · split
    · omega
    · exact growBy_le need 4 c (by omega)

/-- what is appended: a slice, a string, or so many zeros -/
def aappended (P : Program) (h : AH) (elem xT : TypeId) (size : Nat) (x : Value) : Option (Nat × Array Value) :=
  match P.underlying xT with
  | some (.int _) => match x, zeroCellsOf P elem, P.info? elem with
    | .int .i64 n, some zc, some ie => if 0 ≤ n ∧ n < 2 ^ 62 ∧ n * ie.bytes ≤ 2 ^ 48 then some (n.toNat, zeros zc (n.toNat * zc.size)) else none
    | _, _, _ => none
  | some _ => asource h size x
  | none => none

def aappend (P : Program) (h : AH) (sT xT : TypeId) (s x : Value) : Option (Value × AH) :=
  match P.underlying sT with
  | some (.slice elem) => match P.info? elem, zeroCellsOf P elem with
    | some ie, some zc => match aappended P h elem xT ie.size x with
      | some (n, new) => match s with
        | .slice none 0 0 => if n = 0 then some (.slice none 0 0, h) else
            if (2 * n + 192) * ie.bytes ≤ 2 ^ 48 ∧ n < 2 ^ 62 then some (.slice (some ⟨h.length, 0, none⟩) n n, h ++ [.cells new ie.size true]) else none
        | .slice (some ⟨b, o, none⟩) len cap =>
            if n = 0 ∧ len ≤ cap then some (.slice (some ⟨b, o, none⟩) len cap, h) else
            match h[b]? with
            | some (.cells c es true) =>
              if o + len * ie.size ≤ c.size ∧ es = ie.size then
                if len + n ≤ cap then
                  if o + (len + n) * ie.size ≤ c.size then some (.slice (some ⟨b, o, none⟩) (len + n) cap, h.set b (.cells (blit c (o + len * ie.size) new.toList) es true)) else none
                else if (2 * (len + n) + 192) * ie.bytes ≤ 2 ^ 48 ∧ len + n < 2 ^ 62 then
                  some (.slice (some ⟨h.length, 0, none⟩) (len + n) (len + n), h.set b .dead ++ [.cells (c.extract o (o + len * ie.size) ++ new) ie.size true]) else none
              else none
            | _ => none
        | _ => none
      | none => none
    | _, _ => none
  | _ => none

end Go.Am
