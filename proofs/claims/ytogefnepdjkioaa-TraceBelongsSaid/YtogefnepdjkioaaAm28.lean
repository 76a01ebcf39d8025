import Derived.Test.YtogefnepdjkioaaAm27
set_option linter.unusedVariables false
set_option linter.unusedSimpArgs false
/- Frozen values: equations; slices as lists. -/
namespace Go.Am
open Go

section
variable {P : Program} {h : AH} {t u : TypeId} {k j n : Nat} {i : Int} {ik : IntKind} {c : Array Value} {lo hi : Option Value}

def mkLoadF (c : Array Value) (o : Nat) : Option (Bool × Nat) → Option Value
  | some (true, n) => if o + n ≤ c.size then some (.agg (c.extract o (o + n))) else none
  | some (false, _) => c[o]?
  | none => none
def mkFieldAddrF (c : Array Value) (o : Nat) : Option (Nat × Bool × Nat) → Option Value
  | some (off, _, n + 1) => some (fp c (o + off))
  | _ => none
def mkIndexF (c : Array Value) (o : Nat) (i : Int) : Option (Nat × Bool × Nat) → Option Value
  | some (n, _, m) => if 0 ≤ i ∧ i < n then some (fp c (o + i.toNat * m)) else none
  | none => none
def mkIndexZ (c : Array Value) (len : Nat) (i : Int) : Option (Bool × Nat × Nat) → Option Value
  | some (_, m, _) => if 0 ≤ i ∧ i < len then some (fp c (i.toNat * m)) else none
  | none => none
def mkSliceZ (c : Array Value) (len : Nat) (lo hi : Option Value) : Option (Bool × Nat × Nat) → Option Value
  | some (_, m, _) => match abounds len len lo hi with
      | some (l, hh) => if hh * m ≤ c.size then some (fz (c.extract (l * m) (hh * m)) (hh - l)) else none
      | none => none
  | none => none
def mkSliceF (c : Array Value) (o : Nat) (lo hi : Option Value) : Option (Nat × Bool × Nat) → Option Value
  | some (n, _, m) => match abounds n n lo hi with
      | some (l, hh) => if l = n ∨ c.size < o + hh * m then none else some (fz (c.extract (o + l * m) (o + hh * m)) (hh - l))
      | none => none
  | none => none

theorem fz_eq : Value.func (.yield 0) c #[.int .i64 (n : Nat)] = fz c n := rfl
theorem fp_eq : Value.func (.yield 1) c #[.int .i64 (n : Nat)] = fp c n := rfl

theorem aload_fp {f : Bool × Nat} (ht : tyc P t = some f) : aload P h t (fp c n) = mkLoadF c n (some f) := by
  obtain ⟨g, m⟩ := f
  obtain ⟨d, i, hu, hi, h1, h2⟩ := tyc_spec ht
  show (match fzN #[.int .i64 (n : Nat)] with | some k => aloadRow P t c k | none => none) = _
  rw [fzN_lit]
  unfold aloadRow mkLoadF
  simp only [hu, hi, h1, h2]
  cases g <;> rfl
theorem afieldAddr_fp {f : Nat × Bool × Nat} (hf : fld P t k = some f) : afieldAddr P t (fp c n) k = mkFieldAddrF c n (some f) := by
  obtain ⟨off, g, m⟩ := f
  obtain ⟨fields, fd, hu, hfd, ho, ht⟩ := fld_spec hf
  obtain ⟨d, i, hud, hi, h1, h2⟩ := tyc_spec ht
  simp only [afieldAddr, fp, hu, hfd, hi, fzN_lit]
  subst ho
  cases m with
  | zero => rw [if_pos h2]; rfl
  | succ m => rw [if_neg (by omega)]; rfl
theorem aindexAddr_fp {f : Nat × Bool × Nat} (ha : arr P t = some f) : aindexAddr P t (fp c n) (.int ik i) = mkIndexF c n i (some f) := by
  obtain ⟨m0, g, m⟩ := f
  obtain ⟨elem, ie, hu, ht, hie, hsz⟩ := arr_spec ha
  simp only [aindexAddr, fp, hu, hie, hsz, mkIndexF, fzN_lit]
theorem aindexAddr_fz {f : Bool × Nat × Nat} (ha : slc P t = some f) : aindexAddr P t (fz c n) (.int ik i) = mkIndexZ c n i (some f) := by
  obtain ⟨g, m, by_⟩ := f
  obtain ⟨elem, ie, hu, ht, hie, hsz, _⟩ := slc_spec ha
  simp only [aindexAddr, fz, hu, hie, hsz, mkIndexZ, fzN_lit]
theorem alen_fz {f : Bool × Nat × Nat} (ha : slc P t = some f) : alen P h t (fz c n) = some (.int .i64 n) := by
  obtain ⟨g, m, by_⟩ := f
  obtain ⟨elem, ie, hu, ht, hie, hsz, _⟩ := slc_spec ha
  simp only [alen, fz, hu, fzN_lit]
theorem aslice_fz {f : Bool × Nat × Nat} (ha : slc P t = some f) : aslice P h t (fz c n) lo hi = mkSliceZ c n lo hi (some f) := by
  obtain ⟨g, m, by_⟩ := f
  obtain ⟨elem, ie, hu, ht, hie, hsz, _⟩ := slc_spec ha
  simp only [aslice, fz, hu, hie, hsz, mkSliceZ, fzN_lit]
  rfl
theorem aslice_fp {f : Nat × Bool × Nat} (ha : arr P t = some f) : aslice P h t (fp c n) lo hi = mkSliceF c n lo hi (some f) := by
  obtain ⟨m0, g, m⟩ := f
  obtain ⟨elem, ie, hu, ht, hie, hsz⟩ := arr_spec ha
  simp only [aslice, fp, hu, hie, hsz, mkSliceF, fzN_lit]
  rfl
theorem aarr_fz {f : Nat × Bool × Nat} (ha : arr P t = some f) : aarrayPtr P t (fz c n) = if f.1 ≤ n ∧ 0 < n then some (fp c 0) else none := by
  obtain ⟨m0, g, m⟩ := f
  obtain ⟨elem, ie, hu, ht, hie, hsz⟩ := arr_spec ha
  simp only [aarrayPtr, fz, hu, fzN_lit]
theorem asource_fz {m : Nat} : asource h m (fz c n) = if n * m ≤ c.size then some (n, c.extract 0 (n * m)) else none := by
  simp only [asource, fz, fzN_lit]
end

/-! ### slices as lists -/
/-- a slice: is it nil? what it holds -/
structure Sl (α : Type) where
  nil : Bool
  l : List α
  ok : nil = true → l = []

theorem Sl.ext {α : Type} {a b : Sl α} (h1 : a.nil = b.nil) (h2 : a.l = b.l) : a = b := by cases a; cases b; simp_all

def Sl.app {α : Type} (l : List α) : Sl α := ⟨l.isEmpty, l, by simp⟩
def Sl.full {α : Type} (l : List α) : Sl α := ⟨false, l, by simp⟩
def Sl.none {α : Type} : Sl α := ⟨true, [], by simp⟩

def flatV {α : Type} (enc : α → List Value) (l : List α) : Array Value := (l.flatMap enc).toArray

def slV {α : Type} (enc : α → List Value) (s : Sl α) : Value := bif s.nil then .slice none 0 0 else fz (flatV enc s.l) s.l.length

theorem flat_length {α : Type} {enc : α → List Value} {n : Nat} (hn : ∀ x, (enc x).length = n) (l : List α) : (l.flatMap enc).length = l.length * n := by
  induction l with
  | nil => simp
  | cons x l ih => simp [hn, ih, Nat.add_mul]; omega

theorem flat_size {α : Type} {enc : α → List Value} {n : Nat} (hn : ∀ x, (enc x).length = n) (l : List α) : (flatV enc l).size = l.length * n := by
  simp [flatV, flat_length hn]

theorem flat_drop {α : Type} {enc : α → List Value} {n : Nat} (hn : ∀ x, (enc x).length = n) : ∀ (l : List α) (k : Nat), (l.flatMap enc).drop (k * n) = (l.drop k).flatMap enc
  | l, 0 => by simp
  | [], k + 1 => by simp
  | x :: l, k + 1 => by
    rw [List.flatMap_cons, Nat.add_mul, Nat.one_mul, Nat.add_comm, ← List.drop_drop]
    have : (enc x ++ l.flatMap enc).drop n = l.flatMap enc := by rw [← hn x, List.drop_left]
    rw [this, flat_drop hn l k]
    simp

theorem flat_take {α : Type} {enc : α → List Value} {n : Nat} (hn : ∀ x, (enc x).length = n) : ∀ (l : List α) (k : Nat), (l.flatMap enc).take (k * n) = (l.take k).flatMap enc
  | l, 0 => by simp
  | [], k + 1 => by simp
  | x :: l, k + 1 => by
    rw [List.flatMap_cons, Nat.add_mul, Nat.one_mul, Nat.add_comm]
    rw [List.take_append, List.take_of_length_le (by rw [hn]; omega), hn, show n + k * n - n = k * n by omega, flat_take hn l k]
    simp

theorem flat_extract {α : Type} {enc : α → List Value} {n : Nat} (hn : ∀ x, (enc x).length = n) (l : List α) (a b : Nat) : (flatV enc l).extract (a * n) (b * n) = flatV enc ((l.take b).drop a) := by
  apply Array.ext'
  simp only [flatV, Array.toList_extract, List.extract_eq_take_drop]
  rw [← flat_drop hn, ← flat_take hn, List.drop_take]

theorem flat_getElem? {α : Type} {enc : α → List Value} {n : Nat} (hn : ∀ x, (enc x).length = n) {l : List α} {k : Nat} (hk : k < l.length) {off : Nat} (ho : off < n) : (flatV enc l)[k * n + off]? = (enc l[k])[off]? := by
  have h1 : (l.flatMap enc)[k * n + off]? = ((l.flatMap enc).drop (k * n))[off]? := by rw [List.getElem?_drop]
  simp only [flatV, List.getElem?_toArray, h1, flat_drop hn]
  rw [List.drop_eq_getElem_cons hk, List.flatMap_cons, List.getElem?_append_left (by rw [hn]; exact ho)]

theorem flat_piece {α : Type} {enc : α → List Value} {n : Nat} (hn : ∀ x, (enc x).length = n) {l : List α} {k : Nat} (hk : k < l.length) {off m : Nat} (ho : off + m ≤ n) : (flatV enc l).extract (k * n + off) (k * n + off + m) = ((enc l[k]).toArray).extract off (off + m) := by
  apply Array.ext
  · have h1 := flat_size hn l
    have h2 : (k + 1) * n ≤ l.length * n := Nat.mul_le_mul_right _ hk
    rw [Nat.add_mul, Nat.one_mul] at h2
    simp [h1, hn]; omega
  · intro i h1 h2
    have hi : i < m := by simp [hn] at h2; omega
    have e := flat_getElem? hn hk (off := off + i) (by omega)
    have e2 : (flatV enc l)[k * n + off + i]? = (enc l[k])[off + i]? := by rw [Nat.add_assoc]; exact e
    have g1 : ((flatV enc l).extract (k * n + off) (k * n + off + m))[i]? = (flatV enc l)[k * n + off + i]? := by rw [Array.getElem?_extract]; simp only [Array.size_extract] at h1; rw [if_pos (by omega)]
    have g2 : (((enc l[k]).toArray).extract off (off + m))[i]? = (enc l[k])[off + i]? := by rw [Array.getElem?_extract]; simp only [Array.size_extract] at h2; rw [if_pos (by omega)]; simp
    have := g1.trans (e2.trans g2.symm)
    rw [Array.getElem?_eq_getElem h1, Array.getElem?_eq_getElem h2] at this
    exact Option.some.inj this

section
variable {P : Program} {h : AH} {t u : TypeId} {k j n : Nat} {i : Int} {ik : IntKind} {lo hi : Option Value} {α : Type} {enc : α → List Value} {s : Sl α} {l : List α}

/-- an element, whole -/
theorem loadF_at (hn : ∀ x, (enc x).length = n) (hk : k < l.length) : mkLoadF (flatV enc l) (k * n) (some (true, n)) = some (.agg (enc l[k]).toArray) := by
  have h2 : (k + 1) * n ≤ l.length * n := Nat.mul_le_mul_right _ hk
  rw [Nat.add_mul, Nat.one_mul] at h2
  have := flat_piece hn hk (off := 0) (m := n) (by omega)
  simp only [Nat.add_zero, Nat.zero_add] at this
  unfold mkLoadF
  simp only
  rw [if_pos (by rw [flat_size hn]; exact h2), this]
  congr 2
  have : ((enc l[k]).toArray).size = n := by simp [hn]
  rw [← this, Array.extract_size]
/-- a part of an element -/
theorem loadF_part {off m : Nat} {g : Bool} (hn : ∀ x, (enc x).length = n) (hk : k < l.length) (ho : off + m ≤ n) (hm : 0 < m) : mkLoadF (flatV enc l) (k * n + off) (some (g, m)) = mkLoadF (enc l[k]).toArray off (some (g, m)) := by
  have h2 : (k + 1) * n ≤ l.length * n := Nat.mul_le_mul_right _ hk
  rw [Nat.add_mul, Nat.one_mul] at h2
  cases g with
  | true =>
    unfold mkLoadF
    simp only
    rw [if_pos (by rw [flat_size hn]; omega), if_pos (by simp [hn]; omega), flat_piece hn hk ho]
  | false =>
    unfold mkLoadF
    simp only
    rw [flat_getElem? hn hk (by omega), List.getElem?_toArray]
/-- an element of one cell -/
theorem loadF_one {f : α → Value} {m : Nat} (hk : k < l.length) : mkLoadF (flatV (fun x => [f x]) l) k (some (false, m)) = some (f l[k]) := by
  have := flat_getElem? (enc := fun x => [f x]) (n := 1) (fun _ => rfl) hk (off := 0) (by omega)
  unfold mkLoadF
  simp only
  simpa using this

theorem alen_slV {f : Bool × Nat × Nat} (ha : slc P t = some f) : alen P h t (slV enc s) = some (.int .i64 (s.l.length : Nat)) := by
  unfold slV
  cases hn : s.nil with
  | false => exact alen_fz ha
  | true => rw [s.ok hn]; exact alen_eq' ha
theorem aindex_slV {f : Bool × Nat × Nat} (ha : slc P t = some f) : aindexAddr P t (slV enc s) (.int ik i) = mkIndexZ (flatV enc s.l) s.l.length i (some f) := by
  unfold slV
  cases hn : s.nil with
  | false => exact aindexAddr_fz ha
  | true =>
    obtain ⟨g, m, by_⟩ := f
    obtain ⟨elem, ie, hu, _⟩ := slc_spec ha
    rw [s.ok hn]
    simp only [mkIndexZ, List.length_nil]
    rw [if_neg (by omega)]
    simp only [aindexAddr, cond_true, hu]
theorem asource_slV {m : Nat} (hm : ∀ x, (enc x).length = m) : asource h m (slV enc s) = some (s.l.length, flatV enc s.l) := by
  unfold slV
  have e := flat_size hm s.l
  cases hn : s.nil with
  | false =>
    simp only [cond_false]
    rw [asource_fz, if_pos (by rw [e]; exact Nat.le_refl _), ← e, Array.extract_size]
  | true =>
    rw [s.ok hn]
    simp [asource, flatV]

/-- a piece of a slice -/
def Sl.piece (s : Sl α) (a b : Nat) : Sl α := ⟨s.nil, (s.l.take b).drop a, fun e => by rw [s.ok e]; simp⟩

theorem aslice_slV {g : Bool} {m by_ : Nat} (ha : slc P t = some (g, m, by_)) (hm : ∀ x, (enc x).length = m) : aslice P h t (slV enc s) lo hi = (abounds s.l.length s.l.length lo hi).map fun p => slV enc (s.piece p.1 p.2) := by
  unfold slV
  have e := flat_size hm s.l
  cases hn : s.nil with
  | false =>
    simp only [cond_false]
    rw [aslice_fz ha]
    unfold mkSliceZ
    simp only
    cases hb : abounds s.l.length s.l.length lo hi with
    | none => rfl
    | some p =>
      obtain ⟨a, b⟩ := p
      have hab : a ≤ b ∧ b ≤ s.l.length := by
        unfold abounds at hb
        split at hb
        · rename_i h1 hh1
          split at hb
          · rename_i l1 hl1
            simp only [Option.some.injEq, Prod.mk.injEq] at hb
            obtain ⟨rfl, rfl⟩ := hb
            have bnd : ∀ {v : Option Value} {d top r : Nat}, d ≤ top → abound v d top = some r → r ≤ top := by
              intro v d top r hd hv
              unfold abound at hv
              split at hv
              · cases hv; exact hd
              · split at hv
                · cases hv; omega
                · cases hv
              · cases hv
            exact ⟨bnd (Nat.zero_le _) hl1, bnd (Nat.le_refl _) hh1⟩
          · cases hb
        · cases hb
      simp only [Option.map_some]
      rw [if_pos (by rw [e]; exact Nat.mul_le_mul_right _ hab.2), flat_extract hm]
      have : (s.piece a b).nil = false := hn
      rw [this]
      simp only [cond_false, Sl.piece, List.length_drop, List.length_take]
      rw [show min b s.l.length - a = b - a by omega]
  | true =>
    rw [s.ok hn]
    simp only [cond_true, List.length_nil]
    rw [asliceN_eq' ha]
    cases hb : abounds 0 0 lo hi with
    | none => rfl
    | some p =>
      simp only [Option.map_some]
      have : (s.piece p.1 p.2).nil = true := hn
      rw [this]; rfl
end

theorem Tree.slV {α : Type} {enc : α → List Value} (ht : ∀ x, ∀ v ∈ enc x, Tree v) (s : Sl α) : Tree (Am.slV enc s) := by
  unfold Am.slV
  cases s.nil with
  | true => exact .plain _ rfl
  | false =>
    refine .fz _ _ fun i => ?_
    by_cases hi : i < (flatV enc s.l).size
    · have : (flatV enc s.l).getD i Am.junk ∈ s.l.flatMap enc := by
        simp only [flatV, List.size_toArray] at hi
        simp only [flatV, Array.getD, List.size_toArray, hi, dite_true, Array.getInternal_eq_getElem, List.getElem_toArray]
        exact List.getElem_mem hi
      obtain ⟨x, _, hx⟩ := List.mem_flatMap.1 this
      exact ht x _ hx
    · rw [getD_ge i hi]; exact .junk

theorem Tree.aggL {l : List Value} (ht : ∀ v ∈ l, Tree v) : Tree (.agg l.toArray) := by
  refine .agg _ fun i => ?_
  by_cases hi : i < l.length
  · have : l.toArray.getD i Am.junk = l[i] := by simp [Array.getD, hi]
    rw [this]; exact ht _ (List.getElem_mem hi)
  · rw [getD_ge i (by simpa using hi)]; exact .junk

/-- comparison with nil -/
theorem nil_slV {P : Program} {t : TypeId} {f : Bool × Nat × Nat} {α : Type} {enc : α → List Value} {s : Sl α} (ha : slc P t = some f) (l c : Nat) (hs : s.nil = false) : nilCmp P .eql t (slV enc s) (.slice none l c) = some (.bool false) ∧ nilCmp P .neq t (slV enc s) (.slice none l c) = some (.bool true) := by
  obtain ⟨g, m, by_⟩ := f
  obtain ⟨elem, ie, hu, _⟩ := slc_spec ha
  unfold slV
  rw [hs]
  constructor <;> (unfold nilCmp; rw [hu]; rfl)
end Go.Am
