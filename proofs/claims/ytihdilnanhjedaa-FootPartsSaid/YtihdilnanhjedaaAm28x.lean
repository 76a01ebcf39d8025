import Derived.Test.YtihdilnanhjedaaAm25x
set_option linter.unusedVariables false
set_option linter.unusedSimpArgs false
/- Frozen values: equations; slices as lists. -/
namespace Go.Am
open Go

section
variable {P : Program} {h : AH} {t u : TypeId} {k j n : Nat} {i : Int} {ik : IntKind} {c : Array Value} {lo hi : Option Value}

def mkLoadF (c : Array Value) (o : Nat) : Option (Bool × Nat) → Option Value
  | some (true, n) => if o + n ≤ c.size then some (.agg (c.extract o (o + n))) else none
  | some (false, _) => c[o]?
  | none => none
def mkFieldAddrF (c : Array Value) (o : Nat) : Option (Nat × Bool × Nat) → Option Value
  | some (off, _, n + 1) => some (fp c (o + off))
  | _ => none
def mkIndexF (c : Array Value) (o : Nat) (i : Int) : Option (Nat × Bool × Nat) → Option Value
  | some (n, _, m) => if 0 ≤ i ∧ i < n then some (fp c (o + i.toNat * m)) else none
  | none => none
def mkIndexZ (c : Array Value) (len : Nat) (i : Int) : Option (Bool × Nat × Nat) → Option Value
  | some (_, m, _) => if 0 ≤ i ∧ i < len then some (fp c (i.toNat * m)) else none
  | none => none
def mkSliceZ (c : Array Value) (len : Nat) (lo hi : Option Value) : Option (Bool × Nat × Nat) → Option Value
  | some (_, m, _) => match abounds len len lo hi with
      | some (l, hh) => if hh * m ≤ c.size then some (fz (c.extract (l * m) (hh * m)) (hh - l)) else none
      | none => none
  | none => none
def mkSliceF (c : Array Value) (o : Nat) (lo hi : Option Value) : Option (Nat × Bool × Nat) → Option Value
  | some (n, _, m) => match abounds n n lo hi with
      | some (l, hh) => if l = n ∨ c.size < o + hh * m then none else some (fz (c.extract (o + l * m) (o + hh * m)) (hh - l))
      | none => none
  | none => none

theorem fz_eq : Value.func (.yield 0) c #[.int .i64 (n : Nat)] = fz c n := rfl
theorem fp_eq : Value.func (.yield 1) c #[.int .i64 (n : Nat)] = fp c n := rfl

theorem aload_fp {f : Bool × Nat} (ht : tyc P t = some f) : aload P h t (fp c n) = mkLoadF c n (some f) := by
  obtain ⟨g, m⟩ := f
  obtain ⟨d, i, hu, hi, h1, h2⟩ := tyc_spec ht
  show (match fzN #[.int .i64 (n : Nat)] with | some k => aloadRow P t c k | none => none) = _
  rw [fzN_lit]
  unfold aloadRow mkLoadF
  simp only [hu, hi, h1, h2]
  cases g <;> rfl
theorem afieldAddr_fp {f : Nat × Bool × Nat} (hf : fld P t k = some f) : afieldAddr P t (fp c n) k = mkFieldAddrF c n (some f) := by
  obtain ⟨off, g, m⟩ := f
  obtain ⟨fields, fd, hu, hfd, ho, ht⟩ := fld_spec hf
  obtain ⟨d, i, hud, hi, h1, h2⟩ := tyc_spec ht
  simp only [afieldAddr, fp, hu, hfd, hi, fzN_lit]
  subst ho
  cases m with
  | zero => rw [if_pos h2]; rfl
  | succ m => rw [if_neg (by omega)]; rfl
theorem aindexAddr_fp {f : Nat × Bool × Nat} (ha : arr P t = some f) : aindexAddr P t (fp c n) (.int ik i) = mkIndexF c n i (some f) := by
  obtain ⟨m0, g, m⟩ := f
  obtain ⟨elem, ie, hu, ht, hie, hsz⟩ := arr_spec ha
  simp only [aindexAddr, fp, hu, hie, hsz, mkIndexF, fzN_lit]
theorem aindexAddr_fz {f : Bool × Nat × Nat} (ha : slc P t = some f) : aindexAddr P t (fz c n) (.int ik i) = mkIndexZ c n i (some f) := by
  obtain ⟨g, m, by_⟩ := f
  obtain ⟨elem, ie, hu, ht, hie, hsz, _⟩ := slc_spec ha
  simp only [aindexAddr, fz, hu, hie, hsz, mkIndexZ, fzN_lit]
theorem alen_fz {f : Bool × Nat × Nat} (ha : slc P t = some f) : alen P h t (fz c n) = some (.int .i64 n) := by
  obtain ⟨g, m, by_⟩ := f
  obtain ⟨elem, ie, hu, ht, hie, hsz, _⟩ := slc_spec ha
  simp only [alen, fz, hu, fzN_lit]
theorem aslice_fz {f : Bool × Nat × Nat} (ha : slc P t = some f) : aslice P h t (fz c n) lo hi = mkSliceZ c n lo hi (some f) := by
  obtain ⟨g, m, by_⟩ := f
  obtain ⟨elem, ie, hu, ht, hie, hsz, _⟩ := slc_spec ha
  simp only [aslice, fz, hu, hie, hsz, mkSliceZ, fzN_lit]
  rfl
theorem aslice_fp {f : Nat × Bool × Nat} (ha : arr P t = some f) : aslice P h t (fp c n) lo hi = mkSliceF c n lo hi (some f) := by
  obtain ⟨m0, g, m⟩ := f
  obtain ⟨elem, ie, hu, ht, hie, hsz⟩ := arr_spec ha
  simp only [aslice, fp, hu, hie, hsz, mkSliceF, fzN_lit]
  rfl
theorem aarr_fz {f : Nat × Bool × Nat} (ha : arr P t = some f) : aarrayPtr P t (fz c n) = if f.1 ≤ n ∧ 0 < n then some (fp c 0) else none := by
  obtain ⟨m0, g, m⟩ := f
  obtain ⟨elem, ie, hu, ht, hie, hsz⟩ := arr_spec ha
  simp only [aarrayPtr, fz, hu, fzN_lit]
theorem asource_fz {m : Nat} : asource h m (fz c n) = if n * m ≤ c.size then some (n, c.extract 0 (n * m)) else none := by
  simp only [asource, fz, fzN_lit]
end

/-! ### slices as lists -/
/-- a slice: is it nil? what it holds -/
structure Sl (α : Type) where
  nil : Bool
  l : List α
  ok : nil = true → l = []

theorem Sl.ext {α : Type} {a b : Sl α} (h1 : a.nil = b.nil) (h2 : a.l = b.l) : a = b := by cases a; cases b; simp_all

def Sl.app {α : Type} (l : List α) : Sl α := ⟨l.isEmpty, l, by simp⟩
def Sl.full {α : Type} (l : List α) : Sl α := ⟨false, l, by simp⟩
def Sl.none {α : Type} : Sl α := ⟨true, [], by simp⟩

def flatV {α : Type} (enc : α → List Value) (l : List α) : Array Value := (l.flatMap enc).toArray

def slV {α : Type} (enc : α → List Value) (s : Sl α) : Value := bif s.nil then .slice none 0 0 else fz (flatV enc s.l) s.l.length

theorem flat_length {α : Type} {enc : α → List Value} {n : Nat} (hn : ∀ x, (enc x).length = n) (l : List α) : (l.flatMap enc).length = l.length * n := by
  induction l with
  | nil => simp
  | cons x l ih => simp [hn, ih, Nat.add_mul]; omega

theorem flat_size {α : Type} {enc : α → List Value} {n : Nat} (hn : ∀ x, (enc x).length = n) (l : List α) : (flatV enc l).size = l.length * n := by
  simp [flatV, flat_length hn]

theorem flat_drop {α : Type} {enc : α → List Value} {n : Nat} (hn : ∀ x, (enc x).length = n) : ∀ (l : List α) (k : Nat), (l.flatMap enc).drop (k * n) = (l.drop k).flatMap enc
  | l, 0 => by simp
  | [], k + 1 => by simp
  | x :: l, k + 1 => by
    rw [List.flatMap_cons, Nat.add_mul, Nat.one_mul, Nat.add_comm, ← List.drop_drop]
    have : (enc x ++ l.flatMap enc).drop n = l.flatMap enc := by rw [← hn x, List.drop_left]
    rw [this, flat_drop hn l k]
    simp

theorem flat_take {α : Type} {enc : α → List Value} {n : Nat} (hn : ∀ x, (enc x).length = n) : ∀ (l : List α) (k : Nat), (l.flatMap enc).take (k * n) = (l.take k).flatMap enc
  | l, 0 => by simp
  | [], k + 1 => by simp
  | x :: l, k + 1 => by
    rw [List.flatMap_cons, Nat.add_mul, Nat.one_mul, Nat.add_comm]
    rw [List.take_append, List.take_of_length_le (by rw [hn]; omega), hn, show n + k * n - n = k * n by omega, flat_take hn l k]
    simp

theorem flat_extract {α : Type} {enc : α → List Value} {n : Nat} (hn : ∀ x, (enc x).length = n) (l : List α) (a b : Nat) : (flatV enc l).extract (a * n) (b * n) = flatV enc ((l.take b).drop a) := by
  apply Array.ext'
  simp only [flatV, Array.toList_extract, List.extract_eq_take_drop]
  rw [← flat_drop hn, ← flat_take hn, List.drop_take]

theorem flat_getElem? {α : Type} {enc : α → List Value} {n : Nat} (hn : ∀ x, (enc x).length = n) {l : List α} {k : Nat} (hk : k < l.length) {off : Nat} (ho : off < n) : (flatV enc l)[k * n + off]? = (enc l[k])[off]? := by
  have h1 : (l.flatMap enc)[k * n + off]? = ((l.flatMap enc).drop (k * n))[off]? := by rw [List.getElem?_drop]
  simp only [flatV, List.getElem?_toArray, h1, flat_drop hn]
  rw [List.drop_eq_getElem_cons hk, List.flatMap_cons, List.getElem?_append_left (by rw [hn]; exact ho)]

theorem flat_piece {α : Type} {enc : α → List Value} {n : Nat} (hn : ∀ x, (enc x).length = n) {l : List α} {k : Nat} (hk : k < l.length) {off m : Nat} (ho : off + m ≤ n) : (flatV enc l).extract (k * n + off) (k * n + off + m) = ((enc l[k]).toArray).extract off (off + m) := by
  apply Array.ext
  · have h1 := flat_size hn l
    have h2 : (k + 1) * n ≤ l.length * n := Nat.mul_le_mul_right _ hk
    rw [Nat.add_mul, Nat.one_mul] at h2
    simp [h1, hn]; omega
  · intro i h1 h2
    have hi : i < m := by simp [hn] at h2; omega
    have e := flat_getElem? hn hk (off := off + i) (by omega)
    have e2 : (flatV enc l)[k * n + off + i]? = (enc l[k])[off + i]? := by rw [Nat.add_assoc]; exact e
    have g1 : ((flatV enc l).extract (k * n + off) (k * n + off + m))[i]? = (flatV enc l)[k * n + off + i]? := by rw [Array.getElem?_extract]; simp only [Array.size_extract] at h1; rw [if_pos (by omega)]
    have g2 : (((enc l[k]).toArray).extract off (off + m))[i]? = (enc l[k])[off + i]? := by rw [Array.getElem?_extract]; simp only [Array.size_extract] at h2; rw [if_pos (by omega)]; simp
    have := g1.trans (e2.trans g2.symm)
    rw [Array.getElem?_eq_getElem h1, Array.getElem?_eq_getElem h2] at this
    exact Option.some.inj this

section
variable {P : Program} {h : AH} {t u : TypeId} {k j n : Nat} {i : Int} {ik : IntKind} {lo hi : Option Value} {α : Type} {enc : α → List Value} {s : Sl α} {l : List α}

/-- an element, whole -/
theorem loadF_at (hn : ∀ x, (enc x).length = n) (hk : k < l.length) : mkLoadF (flatV enc l) (k * n) (some (true, n)) = some (.agg (enc l[k]).toArray) := by
  have h2 : (k + 1) * n ≤ l.length * n := Nat.mul_le_mul_right _ hk
  rw [Nat.add_mul, Nat.one_mul] at h2
  have := flat_piece hn hk (off := 0) (m := n) (by omega)
  simp only [Nat.add_zero, Nat.zero_add] at this
  unfold mkLoadF
  simp only
  rw [if_pos (by rw [flat_size hn]; exact h2), this]
  congr 2
  have : ((enc l[k]).toArray).size = n := by simp [hn]
  rw [← this, Array.extract_size]
/-- a part of an element -/
theorem loadF_part {off m : Nat} {g : Bool} (hn : ∀ x, (enc x).length = n) (hk : k < l.length) (ho : off + m ≤ n) (hm : 0 < m) : mkLoadF (flatV enc l) (k * n + off) (some (g, m)) = mkLoadF (enc l[k]).toArray off (some (g, m)) := by
  have h2 : (k + 1) * n ≤ l.length * n := Nat.mul_le_mul_right _ hk
  rw [Nat.add_mul, Nat.one_mul] at h2
  cases g with
  | true =>
    unfold mkLoadF
    simp only
    rw [if_pos (by rw [flat_size hn]; omega), if_pos (by simp [hn]; omega), flat_piece hn hk ho]
  | false =>
    unfold mkLoadF
    simp only
    rw [flat_getElem? hn hk (by omega), List.getElem?_toArray]
/-- an element of one cell -/
theorem loadF_one {f : α → Value} {m : Nat} (hk : k < l.length) : mkLoadF (flatV (fun x => [f x]) l) k (some (false, m)) = some (f l[k]) := by
  have := flat_getElem? (enc := fun x => [f x]) (n := 1) (fun _ => rfl) hk (off := 0) (by omega)
  unfold mkLoadF
  simp only
  simpa using this

theorem alen_slV {f : Bool × Nat × Nat} (ha : slc P t = some f) : alen P h t (slV enc s) = some (.int .i64 (s.l.length : Nat)) := by
  unfold slV
  cases hn : s.nil with
  | false => exact alen_fz ha
  | true => rw [s.ok hn]; exact alen_eq' ha
theorem aindex_slV {f : Bool × Nat × Nat} (ha : slc P t = some f) : aindexAddr P t (slV enc s) (.int ik i) = mkIndexZ (flatV enc s.l) s.l.length i (some f) := by
  unfold slV
  cases hn : s.nil with
  | false => exact aindexAddr_fz ha
  | true =>
    obtain ⟨g, m, by_⟩ := f
    obtain ⟨elem, ie, hu, _⟩ := slc_spec ha
    rw [s.ok hn]
    simp only [mkIndexZ, List.length_nil]
    rw [if_neg (by omega)]
    simp only [aindexAddr, cond_true, hu]
theorem asource_slV {m : Nat} (hm : ∀ x, (enc x).length = m) : asource h m (slV enc s) = some (s.l.length, flatV enc s.l) := by
  unfold slV
  have e := flat_size hm s.l
  cases hn : s.nil with
  | false =>
    simp only [cond_false]
    rw [asource_fz, if_pos (by rw [e]; exact Nat.le_refl _), ← e, Array.extract_size]
  | true =>
    rw [s.ok hn]
    simp [asource, flatV]

/-- a piece of a slice -/
def Sl.piece (s : Sl α) (a b : Nat) : Sl α := ⟨s.nil, (s.l.take b).drop a, fun e => by rw [s.ok e]; simp⟩

theorem aslice_slV {g : Bool} {m by_ : Nat} (ha : slc P t = some (g, m, by_)) (hm : ∀ x, (enc x).length = m) : aslice P h t (slV enc s) lo hi = (abounds s.l.length s.l.length lo hi).map fun p => slV enc (s.piece p.1 p.2) := by
  unfold slV
  have e := flat_size hm s.l
  cases hn : s.nil with
  | false =>
    simp only [cond_false]
    rw [aslice_fz ha]
    unfold mkSliceZ
    simp only
    cases hb : abounds s.l.length s.l.length lo hi with
    | none => rfl
    | some p =>
      obtain ⟨a, b⟩ := p
      have hab : a ≤ b ∧ b ≤ s.l.length := by
        unfold abounds at hb
        split at hb
        · rename_i h1 hh1
          split at hb
          · rename_i l1 hl1
            simp only [Option.some.injEq, Prod.mk.injEq] at hb
            obtain ⟨rfl, rfl⟩ := hb
            have bnd : ∀ {v : Option Value} {d top r : Nat}, d ≤ top → abound v d top = some r → r ≤ top := by
              intro v d top r hd hv
              unfold abound at hv
              split at hv
              · cases hv; exact hd
              · split at hv
                · cases hv; omega
                · cases hv
              · cases hv
            exact ⟨bnd (Nat.zero_le _) hl1, bnd (Nat.le_refl _) hh1⟩
          · cases hb
        · cases hb
      simp only [Option.map_some]
      rw [if_pos (by rw [e]; exact Nat.mul_le_mul_right _ hab.2), flat_extract hm]
      have : (s.piece a b).nil = false := hn
      rw [this]
      simp only [cond_false, Sl.piece, List.length_drop, List.length_take]
      rw [show min b s.l.length - a = b - a by omega]
  | true =>
    rw [s.ok hn]
    simp only [cond_true, List.length_nil]
    rw [asliceN_eq' ha]
    cases hb : abounds 0 0 lo hi with
    | none => rfl
    | some p =>
      simp only [Option.map_some]
      have : (s.piece p.1 p.2).nil = true := hn
      rw [this]; rfl
end

theorem Tree.slV {α : Type} {enc : α → List Value} (ht : ∀ x, ∀ v ∈ enc x, Tree v) (s : Sl α) : Tree (Am.slV enc s) := by
  unfold Am.slV
  cases s.nil with
  | true => exact .plain _ rfl
  | false =>
    refine .fz _ _ fun i => ?_
    by_cases hi : i < (flatV enc s.l).size
    · have : (flatV enc s.l).getD i Am.junk ∈ s.l.flatMap enc := by
        simp only [flatV, List.size_toArray] at hi
        simp only [flatV, Array.getD, List.size_toArray, hi, dite_true, Array.getInternal_eq_getElem, List.getElem_toArray]
        exact List.getElem_mem hi
      obtain ⟨x, _, hx⟩ := List.mem_flatMap.1 this
      exact ht x _ hx
    · rw [getD_ge i hi]; exact .junk

theorem Tree.aggL {l : List Value} (ht : ∀ v ∈ l, Tree v) : Tree (.agg l.toArray) := by
  refine .agg _ fun i => ?_
  by_cases hi : i < l.length
  · have : l.toArray.getD i Am.junk = l[i] := by simp [Array.getD, hi]
    rw [this]; exact ht _ (List.getElem_mem hi)
  · rw [getD_ge i (by simpa using hi)]; exact .junk

/-- comparison with nil -/
theorem nil_slV {P : Program} {t : TypeId} {f : Bool × Nat × Nat} {α : Type} {enc : α → List Value} {s : Sl α} (ha : slc P t = some f) (l c : Nat) (hs : s.nil = false) : nilCmp P .eql t (slV enc s) (.slice none l c) = some (.bool false) ∧ nilCmp P .neq t (slV enc s) (.slice none l c) = some (.bool true) := by
  obtain ⟨g, m, by_⟩ := f
  obtain ⟨elem, ie, hu, _⟩ := slc_spec ha
  unfold slV
  rw [hs]
  constructor <;> (unfold nilCmp; rw [hu]; rfl)
end Go.Am
set_option linter.unusedVariables false
set_option linter.unusedSimpArgs false
/- Slices that grow; what is forgotten; calls at frozen arguments. -/
namespace Go.Am
open Go

/-- a slice that grows from nil on, and lies in a block of its own -/
def outV {α : Type} (b : Nat) (l : List α) : Value := match l with
  | [] => .slice none 0 0
  | _ :: _ => .slice (some ⟨b, 0, none⟩) l.length l.length
def outO {α : Type} (enc : α → List Value) (m : Nat) (l : List α) : AObj := match l with
  | [] => .dead
  | _ :: _ => .cells (flatV enc l) m true

section
variable {P : Program} {h H : AH} {t u : TypeId} {b m n by_ : Nat} {g : Bool} {i : Int} {ik : IntKind} {α : Type} {enc : α → List Value} {l : List α} {new : Array Value}

theorem outV_nil : (outV b ([] : List α)) = .slice none 0 0 := rfl
theorem outO_nil : outO enc m ([] : List α) = .dead := rfl
theorem outV_ne (hl : l ≠ []) : outV b l = .slice (some ⟨b, 0, none⟩) l.length l.length := by cases l <;> simp_all [outV]
theorem outO_ne (hl : l ≠ []) : outO enc m l = .cells (flatV enc l) m true := by cases l <;> simp_all [outO]
theorem flatV_append (l l2 : List α) : flatV enc (l ++ l2) = flatV enc l ++ flatV enc l2 := by simp [flatV]
theorem outV_snoc {a : α} : outV b (l ++ [a]) = .slice (some ⟨b, 0, none⟩) (l.length + 1) (l.length + 1) := by rw [outV_ne (by simp)]; simp
theorem outO_snoc {a : α} : outO enc m (l ++ [a]) = .cells (flatV enc l ++ (enc a).toArray) m true := by rw [outO_ne (by simp), flatV_append]; simp [flatV]

theorem set_same {l : List AObj} {k : Nat} {x : AObj} (h : l[k]? = some x) : l.set k x = l := by
  apply List.ext_getElem?
  intro i
  by_cases hi : k = i
  · subst hi; rw [List.getElem?_set_self (List.getElem?_eq_some_iff.1 h).1, h]
  · rw [List.getElem?_set_ne hi]

theorem mkApp_out (hb : H[b]? = some (outO enc m l)) (hm : ∀ x, (enc x).length = m) (hn : 0 < n) (hbd : (2 * (l.length + n) + 192) * by_ ≤ 2 ^ 48 ∧ l.length + n < 2 ^ 62) :
    mkApp H (outV b l) (some (g, m, by_)) (some (n, new)) = some (.slice (some ⟨H.length, 0, none⟩) (l.length + n) (l.length + n), H.set b .dead ++ [.cells (flatV enc l ++ new) m true]) := by
  cases l with
  | nil =>
    simp only [outV, outO, mkApp, List.length_nil, Nat.zero_add] at hb hbd ⊢
    rw [if_neg (by omega), if_pos hbd, set_same hb]
    simp [flatV]
  | cons x l =>
    have hsz := flat_size hm (x :: l)
    simp only [outV, outO, mkApp] at hb ⊢
    rw [if_neg (by omega), hb]
    simp only
    rw [if_pos (by simp [hsz]), if_neg (by omega), if_pos hbd, Nat.zero_add, ← hsz, Array.extract_size]

theorem alen_outV {f : Bool × Nat × Nat} (ha : slc P t = some f) : alen P h t (outV b l) = some (.int .i64 (l.length : Nat)) := by
  cases l with
  | nil => exact alen_eq' ha
  | cons x l => exact alen_eq' ha
theorem aindex_outV (ha : slc P t = some (g, m, by_)) : aindexAddr P t (outV b l) (.int ik i) = if 0 ≤ i ∧ i < l.length then some (.pointer (some ⟨b, i.toNat * m, none⟩)) else none := by
  cases l with
  | nil =>
    obtain ⟨elem, ie, hu, _⟩ := slc_spec ha
    rw [if_neg (by simp)]
    simp only [outV, aindexAddr, hu]
  | cons x l =>
    simp only [outV]
    rw [aindexS_eq' ha]
    simp only [mkIndexS, Nat.zero_add]
theorem asource_outV (hb : H[b]? = some (outO enc m l)) (hm : ∀ x, (enc x).length = m) : asource H m (outV b l) = some (l.length, flatV enc l) := by
  cases l with
  | nil => rfl
  | cons x l =>
    have hsz := flat_size hm (x :: l)
    simp only [outV, outO, asource] at hb ⊢
    rw [if_neg (by simp), hb]
    simp only [Nat.zero_add]
    rw [if_pos (by rw [hsz]; exact Nat.le_refl _), ← hsz, Array.extract_size]
end

/-- a slice that has grown becomes a value -/
theorem Rf.outV {α : Type} {h h1 : AH} {enc : α → List Value} {m b : Nat} {l : List α} (hb : h[b]? = some (outO enc m l)) (hd : h1[b]? = some .dead) (hm : ∀ x, (enc x).length = m) : Rf h h1 (Am.outV b l) (slV enc (Sl.app l)) := by
  cases l with
  | nil => exact .same _
  | cons x l =>
    exact .slice b 0 _ _ m (flatV enc (x :: l)) (flatV enc (x :: l)) true hb hd (by omega) (Nat.le_refl _) (fun h => by simp at h) fun i _ => by rw [Nat.zero_add]; exact .same _

/-- a slice that fills its block becomes a value -/
theorem Rf.full {α : Type} {h h1 : AH} {enc : α → List Value} {es b : Nat} {l : List α} {rw : Bool} {cap : Nat} (hb : h[b]? = some (.cells (flatV enc l) es rw)) (hd : h1[b]? = some .dead) (hc : l.length ≤ cap) : Rf h h1 (.slice (some ⟨b, 0, none⟩) l.length cap) (slV enc (Sl.full l)) := by
  show Rf h h1 _ (fz (flatV enc l) l.length)
  exact .slice b 0 _ _ es (flatV enc l) (flatV enc l) rw hb hd (by omega) hc (fun h => by
    have : l = [] := List.length_eq_zero_iff.1 h
    subst this; simp [flatV]) fun i _ => by rw [Nat.zero_add]; exact .same _

/-! ### calls at frozen arguments -/
theorem ACalls.freeze {P : Program} {F : FuncId} {args args1 : Array Value} {h h1 : AH} {R : Value → AH → Prop} (hz : HFz h h1) (hsz : args1.size = args.size) (hv : ∀ i : Nat, Rf h h1 (args.getD i junk) (args1.getD i junk)) (hc : ACalls P F args1 h1 R) : ACalls P F args h R := by
  refine ⟨hc.inh, fun f w args' hs ha => ?_⟩
  obtain ⟨k1, k2⟩ := froze_sim (h1 := h1) hs hz
  have hag := froze_agree (h1 := h1) hs
  have old : ∀ (b : Nat) (o1 : AObj), h1[b]? = some o1 → o1.rw = true → ∃ o, h[b]? = some o ∧ o.rw = true := by
    intro b o1 hb hrw
    rcases hz.obj b o1 hb (rw_alive hrw) with h2 | ⟨c, c1, es, rw, h2, rfl, _⟩
    · exact ⟨o1, h2, hrw⟩
    · exact ⟨_, h2, hrw⟩
  have ha1 : ARel (f.froze h h1 w) h1.length args1 args' := ⟨hsz.trans ha.1, fun i => freeze_rel hs hz.len hag k2 (hv i) (ha.2 i)⟩
  refine (hc.run _ w args' k1 ha1).mono fun e w' hx => ?_
  obtain ⟨f', v, v', h', h2, h3, st, h5⟩ := hx
  refine ⟨f', v, v', h', h2, h3, ⟨st.sim, hag.trans st.agree (by rw [hz.len]; exact Nat.le_refl _), by rw [← hz.len]; exact st.len, ⟨st.keep.os, st.keep.tape, st.keep.output, st.keep.size, fun r hr hno => ?_, st.keep.drawn⟩, fun b o hb ho => ?_⟩, h5⟩
  · refine st.keep.block r hr fun b o hb ho => ?_
    obtain ⟨o2, g1, g2⟩ := old b o hb ho
    exact hno b o2 g1 g2
  · rcases st.own b o hb ho with h6 | ⟨b0, o0, g1, g2, g3⟩
    · exact .inl h6
    · obtain ⟨o2, q1, q2⟩ := old b0 o0 g1 g2
      exact .inr ⟨b0, o2, q1, q2, g3⟩

/-- the last block of a heap dies -/
theorem HFz.last {h : AH} {o : AObj} : HFz (h ++ [o]) (h ++ [.dead]) :=
  ⟨by simp, fun b o1 hb ha => by
    by_cases hl : b < h.length
    · rw [List.getElem?_append_left hl] at hb; exact .inl (by rw [List.getElem?_append_left hl]; exact hb)
    · rw [List.getElem?_append_right (by omega)] at hb
      have h1 := (List.getElem?_eq_some_iff.1 hb).1
      simp at h1
      have : b - h.length = 0 := by omega
      rw [this] at hb
      simp at hb
      subst hb
      cases ha⟩

theorem HFz.refl (h : AH) : HFz h h := ⟨rfl, fun b o1 hb ha => .inl hb⟩

/-- a block dies -/
theorem HFz.set {h : AH} {b : Nat} : HFz h (h.set b .dead) :=
  ⟨by simp, fun b' o1 hb ha => by
    by_cases he : b = b'
    · subst he
      by_cases hl : b < h.length
      · rw [List.getElem?_set_self hl] at hb; cases hb; cases ha
      · rw [List.getElem?_eq_none (by simpa using hl)] at hb; cases hb
    · rw [List.getElem?_set_ne he] at hb; exact .inl hb⟩

/-- a dead block more -/
theorem Eases.ghost {P : Program} {h0 : AH} {a : Array Value} {h : AH} : Eases P h0 a h a (h ++ [.dead]) := by
  intro f0 w0 f a' w s0 g
  have hcase : ∀ (b : Nat) (x : AObj), (h ++ [.dead])[b]? = some x → x.alive = true → b < h.length ∧ h[b]? = some x := by
    intro b x hb ha
    by_cases hl : b < h.length
    · rw [List.getElem?_append_left hl] at hb; exact ⟨hl, hb⟩
    · rw [List.getElem?_append_right (by omega)] at hb
      have h1 := (List.getElem?_eq_some_iff.1 hb).1
      simp at h1
      have : b - h.length = 0 := by omega
      rw [this] at hb; simp at hb; subst hb; cases ha
  refine ⟨f, ⟨fun b o hb ha => ?_, fun b b' o o' hb hb' ha ha' hrw hne => ?_, g.sim.glob, by have := g.sim.size; simp; omega, fun r ds hr => ⟨(g.sim.rom r ds hr).1, fun b o hb ho => (g.sim.rom r ds hr).2 b o (hcase b o hb (rw_alive ho)).2 ho⟩, g.sim.laid, fun b o hb => ?_⟩,
    g.tm.mono (by simp) (.refl _ _), g.df.ren (fun b o hb ho => ⟨b, o, (hcase b o hb (rw_alive ho)).2, ho, rfl⟩), g.keep, fun b o hb ho => g.own b o (hcase b o hb (rw_alive ho)).2 ho, g.agree, by have := g.len; simp; omega⟩
  · obtain ⟨o', h1, h2⟩ := g.sim.obj b o (hcase b o hb ha).2 ha
    exact ⟨o', h1, h2.mono (by simp) (.refl _ _)⟩
  · exact g.sim.sep b b' o o' (hcase b o hb ha).2 (hcase b' o' hb' ha').2 ha ha' hrw hne
  · by_cases ha : o.alive = true
    · exact g.sim.ok b o (hcase b o hb ha).2
    · cases o <;> first | trivial | exact absurd rfl ha

/-! ### what is not needed any more -/
/-- a value stays, or is forgotten -/
inductive Keeps (L : Nat) : List Value → List Value → Prop
  | nil : Keeps L [] []
  | junk (v : Value) {l l1 : List Value} (r : Keeps L l l1) : Keeps L (v :: l) (Am.junk :: l1)
  | keep {v : Value} {l l1 : List Value} (h : VRen id L v v) (r : Keeps L l l1) : Keeps L (v :: l) (v :: l1)

theorem Keeps.length {L : Nat} {l l1 : List Value} (h : Keeps L l l1) : l1.length = l.length := by induction h <;> simp_all
theorem Keeps.get {L : Nat} {l l1 : List Value} (h : Keeps L l l1) : ∀ i : Nat, VRen id L (l1.getD i Am.junk) (l.getD i Am.junk) := by
  induction h with
  | nil => intro i; simp; exact .junk _
  | junk v _ ih => intro i; cases i with
    | zero => simpa using VRen.junk v
    | succ i => simpa using ih i
  | keep h _ ih => intro i; cases i with
    | zero => simpa using h
    | succ i => simpa using ih i

/-- the blocks behind are dropped -/
theorem Eases.tail {P : Program} {h0 hk x : AH} {l l1 : List Value} (hle : h0.length ≤ hk.length) (hobj : ∀ b o, hk[b]? = some o → o.alive = true → (b < h0.length ∧ h0[b]? = some o) ∨ ORen id hk.length o o) (hv : Keeps hk.length l l1) :
    Eases P h0 l.toArray (hk ++ x) l1.toArray hk := by
  refine Forget.eases (.inr ⟨id, ⟨hle, fun b hb => rfl, fun b o1 hb ha => ⟨o1, ?_, ?_⟩, fun b b' _ _ e => e⟩, by simpa using hv.length, fun i => ?_⟩)
  · show (hk ++ x)[b]? = _
    rw [List.getElem?_append_left (List.getElem?_eq_some_iff.1 hb).1]; exact hb
  · rcases hobj b o1 hb ha with ⟨h1, h2⟩ | h3
    · exact .inl ⟨h1, h2, rfl⟩
    · exact .inr h3
  · have := hv.get i
    simpa [Array.getD_eq_getD_getElem?, List.getD] using this

/-- objects that name no block -/
def treeObj : AObj → Prop
  | .dead => True
  | .cells c _ _ => ∀ i : Nat, Tree (c.getD i Am.junk)
  | .map _ es _ => ∀ e ∈ es.toList, Tree e.val
  | .miter .. => False

theorem treeObj.ren {L : Nat} {o : AObj} (h : treeObj o) : ORen id L o o := by
  cases o with
  | dead => trivial
  | cells c es rw => exact ⟨c, rfl, rfl, fun i => (h i).ren⟩
  | map k es clock => exact ⟨es, rfl, rfl, fun i e he => ⟨e, he, rfl, rfl, (h e (by have := Array.mem_of_getElem? he; simpa using this)).ren⟩⟩
  | miter m s seen st => exact h.elim

/-- the blocks behind the first new ones are dropped -/
theorem Eases.drop {P : Program} {h0 t x : AH} {l l1 : List Value} (ht : ∀ o ∈ t, ORen id (h0.length + t.length) o o) (hv : Keeps (h0.length + t.length) l l1) :
    Eases P h0 l.toArray (h0 ++ t ++ x) l1.toArray (h0 ++ t) := by
  refine Eases.tail (by simp) (fun b o hb ha => ?_) (by simpa using hv)
  by_cases hl : b < h0.length
  · rw [List.getElem?_append_left hl] at hb; exact .inl ⟨hl, hb⟩
  · rw [List.getElem?_append_right (by omega)] at hb
    exact .inr (by simpa using ht o (List.mem_of_getElem? hb))
end Go.Am
set_option linter.unusedVariables false
set_option linter.unusedSimpArgs false
set_option linter.unusedSectionVars false
/- Maps as functions. -/
namespace Go.Am
open Go

/-- a map's keys' type, its elements' zero -/
def mp (P : Program) (t : TypeId) : Option (TypeId × Value) :=
  match P.underlying t with
  | some (.map k e) => (zeroOf P e).map fun z => (k, z)
  | _ => none

theorem mp_spec {P : Program} {t k : TypeId} {z : Value} (h : mp P t = some (k, z)) : ∃ e, P.underlying t = some (.map k e) ∧ zeroOf P e = some z := by
  unfold mp at h
  split at h
  · rename_i k' e hu
    simp only [Option.map_eq_some_iff, Prod.mk.injEq] at h
    obtain ⟨z', hz, rfl, rfl⟩ := h
    exact ⟨e, hu, hz⟩
  · cases h

section
variable {P : Program} {h : AH} {t k : TypeId} {z key v : Value} {b clock : Nat} {es : Array MapEntry} {ok : Bool}

theorem amLookup_eq (ht : mp P t = some (k, z)) (hk : keyed P k key = true) (hb : h[b]? = some (.map k es clock)) : amLookup P h t (.map (some b)) key ok = some (lookK ok z key es.toList) := by
  obtain ⟨e, hu, hz⟩ := mp_spec ht
  simp only [amLookup, hu, hz, hk, if_true, hb, lookK]
  cases findK key es.toList 0 with
  | none => rfl
  | some p => rfl
theorem amLookup_nil (ht : mp P t = some (k, z)) (hk : keyed P k key = true) (hy : keyTy P k = true) : amLookup P h t (.map none) key ok = some (lookRes ok z false) := by
  obtain ⟨e, hu, hz⟩ := mp_spec ht
  simp only [amLookup, hu, hz, hk, if_true, hy]
theorem amMake_eq (ht : mp P t = some (k, z)) (hy : keyTy P k = true) : amMake P h t = some (.map (some h.length), h ++ [.map k #[] 0]) := by
  obtain ⟨e, hu, hz⟩ := mp_spec ht
  simp only [amMake, hu, hy, if_true]
/-- the entry of a key that is there -/
theorem amEntry_some {j : Nat} {x : MapEntry} (ht : mp P t = some (k, z)) (hk : keyed P k key = true) (hb : h[b]? = some (.map k es clock)) (hf : findK key es.toList 0 = some (j, x)) : amEntry P h t (.map (some b)) key = some (.tuple #[x.val, .int .i64 (x.born : Nat)], h.set b (.map k (es.modify j fun e => { e with key := key }) clock)) := by
  obtain ⟨e, hu, hz⟩ := mp_spec ht
  simp only [amEntry, hu, hz, hk, if_true, hb, hf]
theorem amEntry_none (ht : mp P t = some (k, z)) (hk : keyed P k key = true) (hb : h[b]? = some (.map k es clock)) (hf : findK key es.toList 0 = none) : amEntry P h t (.map (some b)) key = some (.tuple #[z, .int .i64 (clock : Nat)], h.set b (.map k (es.push ⟨key, z, clock⟩) (clock + 1))) := by
  obtain ⟨e, hu, hz⟩ := mp_spec ht
  simp only [amEntry, hu, hz, hk, if_true, hb, hf]
theorem amUpdate_some {j : Nat} {x : MapEntry} (ht : mp P t = some (k, z)) (hk : keyed P k key = true) (hb : h[b]? = some (.map k es clock)) (hf : findK key es.toList 0 = some (j, x)) : amUpdate P h t (.map (some b)) key v = some (h.set b (.map k (es.modify j fun e => { e with key := key, val := v }) clock)) := by
  obtain ⟨e, hu, hz⟩ := mp_spec ht
  simp only [amUpdate, hu, hk, if_true, hb, hf]
theorem amUpdate_none (ht : mp P t = some (k, z)) (hk : keyed P k key = true) (hb : h[b]? = some (.map k es clock)) (hf : findK key es.toList 0 = none) : amUpdate P h t (.map (some b)) key v = some (h.set b (.map k (es.push ⟨key, v, clock⟩) (clock + 1))) := by
  obtain ⟨e, hu, hz⟩ := mp_spec ht
  simp only [amUpdate, hu, hk, if_true, hb, hf]

theorem findIdx_born {es : List MapEntry} (hn : (es.map (·.born)).Nodup) : ∀ {j : Nat} {x : MapEntry}, es[j]? = some x → es.findIdx? (fun e => (e.born : Int) == (x.born : Int)) = some j := by
  induction es with
  | nil => intro j x h; simp at h
  | cons e es ih =>
    intro j x h
    simp only [List.map_cons, List.nodup_cons] at hn
    cases j with
    | zero =>
      rw [List.getElem?_cons_zero] at h; cases h
      rw [List.findIdx?_cons, if_pos (by simp)]
    | succ j =>
      rw [List.getElem?_cons_succ] at h
      have hne : e.born ≠ x.born := fun e1 => hn.1 (by rw [e1]; exact List.mem_map_of_mem (List.mem_of_getElem? h))
      rw [List.findIdx?_cons]
      have : ((e.born : Int) == (x.born : Int)) = false := by rw [beq_eq_false_iff_ne]; omega
      rw [this, ih hn.2 h]
      rfl

theorem arr_findIdx (a : Array MapEntry) (p : MapEntry → Bool) : a.findIdx? p = a.toList.findIdx? p := by obtain ⟨l⟩ := a; simp

/-- an entry that was made, written -/
theorem store_new (m : MapOk P k es.toList clock) (hb : b < h.length) : amEntryStore (h.set b (.map k (es.push ⟨key, z, clock⟩) (clock + 1))) (.map (some b)) (.int .i64 (clock : Nat)) v = some (h.set b (.map k (es.push ⟨key, v, clock⟩) (clock + 1))) := by
  have hno : es.toList.findIdx? (fun e => (e.born : Int) == (clock : Int)) = none := by
    rw [List.findIdx?_eq_none_iff]
    intro e he
    have := m.old e he
    rw [beq_eq_false_iff_ne]; omega
  have e1 : (es.push ⟨key, z, clock⟩).findIdx? (fun e => (e.born : Int) == (clock : Int)) = some es.size := by
    rw [arr_findIdx, Array.toList_push, List.findIdx?_append, hno]
    have e2 : [(⟨key, z, clock⟩ : MapEntry)].findIdx? (fun e => (e.born : Int) == (clock : Int)) = some 0 := by
      rw [List.findIdx?_cons, if_pos (by simp)]
    rw [e2]; simp
  simp only [amEntryStore, List.getElem?_set_self hb, e1, List.set_set]
  congr 3
  apply Array.ext'
  rw [Array.toList_modify, Array.toList_push, Array.toList_push]
  apply List.ext_getElem?
  intro i
  rw [List.getElem?_modify]
  by_cases hi : i < es.size
  · rw [List.getElem?_append_left (by simpa using hi), List.getElem?_append_left (by simpa using hi)]
    have hne : ¬ (es.size = i) := by omega
    simp [hne]
  · rw [List.getElem?_append_right (by simpa using hi), List.getElem?_append_right (by simpa using hi)]
    by_cases he : es.size = i
    · subst he; simp
    · simp only [he, if_false]
      obtain ⟨q, hq⟩ := Nat.exists_eq_succ_of_ne_zero (show i - es.toList.length ≠ 0 by simp; omega)
      rw [hq]; simp

/-- an entry that is there, written -/
theorem store_old {j : Nat} {x : MapEntry} (m : MapOk P k es.toList clock) (hk : keyed P k key = true) (hf : findK key es.toList 0 = some (j, x)) (hb : b < h.length) : amEntryStore (h.set b (.map k (es.modify j fun e => { e with key := key }) clock)) (.map (some b)) (.int .i64 (x.born : Nat)) v = some (h.set b (.map k (es.modify j fun e => { e with key := key, val := v }) clock)) := by
  obtain ⟨_, g1, g2⟩ := findK_some hk es.toList 0 m.keys hf
  simp only [Nat.sub_zero] at g1
  have e0 : (es.toList.modify j fun e => { e with key := key }).map (·.born) = es.toList.map (·.born) := modify_born fun e => rfl
  have e1 : (es.modify j fun e => { e with key := key }).findIdx? (fun e => (e.born : Int) == (x.born : Int)) = some j := by
    rw [arr_findIdx, Array.toList_modify]
    have e2 : ∀ l : List MapEntry, l.findIdx? (fun e => (e.born : Int) == (x.born : Int)) = (l.map fun (y : MapEntry) => y.born).findIdx? (fun (b : Nat) => (b : Int) == (x.born : Int)) := fun l => by
      rw [List.findIdx?_map]; rfl
    rw [e2, e0, ← e2]
    exact findIdx_born m.born g1
  simp only [amEntryStore, List.getElem?_set_self hb, e1, List.set_set]
  congr 3
  apply Array.ext'
  rw [Array.toList_modify, Array.toList_modify, Array.toList_modify]
  apply List.ext_getElem?
  intro i
  simp only [List.getElem?_modify]
  cases es.toList[i]? with
  | none => rfl
  | some e => by_cases hij : j = i <;> simp [hij]
/-- the same, at a heap that holds such a map -/
theorem store_new' {H : AH} (m : MapOk P k es.toList clock) (hb : H[b]? = some (.map k (es.push ⟨key, z, clock⟩) (clock + 1))) : amEntryStore H (.map (some b)) (.int .i64 (clock : Nat)) v = some (H.set b (.map k (es.push ⟨key, v, clock⟩) (clock + 1))) := by
  have := store_new (h := H) (key := key) (z := z) (v := v) m (List.getElem?_eq_some_iff.1 hb).1
  rwa [set_same hb] at this
theorem store_old' {H : AH} {j : Nat} {x : MapEntry} (m : MapOk P k es.toList clock) (hk : keyed P k key = true) (hf : findK key es.toList 0 = some (j, x)) (hb : H[b]? = some (.map k (es.modify j fun e => { e with key := key }) clock)) : amEntryStore H (.map (some b)) (.int .i64 (x.born : Nat)) v = some (H.set b (.map k (es.modify j fun e => { e with key := key, val := v }) clock)) := by
  have := store_old (h := H) (v := v) m hk hf (List.getElem?_eq_some_iff.1 hb).1
  rwa [set_same hb] at this
end

/-- what a map holds, as a function -/
structure MFun {K V : Type} (P : Program) (k : TypeId) (encK : K → Value) (encV : V → Value) (es : Array MapEntry) (clock : Nat) (f : K → Option V) : Prop where
  ok : MapOk P k es.toList clock
  keyed : ∀ x, keyed P k (encK x) = true
  inj : ∀ x y, encK x = encK y → x = y
  at_ : ∀ x, (findK (encK x) es.toList 0).map (fun p => p.2.val) = (f x).map encV
  keys : ∀ e ∈ es.toList, ∃ x, e.key = encK x
  vals : ∀ e ∈ es.toList, ∃ v, e.val = encV v

section
variable {K V : Type} [DecidableEq K] {P : Program} {k : TypeId} {encK : K → Value} {encV : V → Value} {es : Array MapEntry} {clock : Nat} {f : K → Option V}

theorem MFun.empty (hy : keyTy P k = true) (hk : ∀ x : K, Am.keyed P k (encK x) = true) (hi : ∀ x y, encK x = encK y → x = y) : MFun P k encK encV #[] 0 (fun _ => Option.none) :=
  ⟨⟨hy, by simp, by simp, by simp, by simp⟩, hk, hi, fun x => rfl, by simp, by simp⟩

theorem MFun.look (m : MFun P k encK encV es clock f) (ok : Bool) (z : V) (x : K) : lookK ok (encV z) (encK x) es.toList = lookRes ok (encV ((f x).getD z)) (f x).isSome := by
  have := m.at_ x
  unfold lookK
  cases hf : findK (encK x) es.toList 0 with
  | none => rw [hf] at this; cases hx : f x with
    | none => rfl
    | some v => rw [hx] at this; cases this
  | some p => rw [hf] at this; cases hx : f x with
    | none => rw [hx] at this; cases this
    | some v => rw [hx] at this; simp at this; simp [this]

theorem MFun.find_none (m : MFun P k encK encV es clock f) {x : K} (h : f x = Option.none) : findK (encK x) es.toList 0 = Option.none := by
  have := m.at_ x
  rw [h] at this
  simpa using this
theorem MFun.find_some (m : MFun P k encK encV es clock f) {x : K} {v : V} (h : f x = some v) : ∃ j e, findK (encK x) es.toList 0 = some (j, e) ∧ e.val = encV v := by
  have := m.at_ x
  rw [h] at this
  simp only [Option.map_some, Option.map_eq_some_iff] at this
  obtain ⟨⟨j, e⟩, h1, h2⟩ := this
  exact ⟨j, e, h1, h2⟩

/-- a new entry -/
theorem MFun.push (m : MFun P k encK encV es clock f) {x : K} (h : f x = Option.none) (v : V) : MFun P k encK encV (es.push ⟨encK x, encV v, clock⟩) (clock + 1) (fun y => if y = x then some v else f y) := by
  have hno := (findK_none (m.keyed x) es.toList 0 m.ok.keys).1 (m.find_none h)
  refine ⟨by rw [Array.toList_push]; exact mapOk_push m.ok (m.keyed x) hno, m.keyed, m.inj, fun y => ?_, fun e he => ?_, fun e he => ?_⟩
  · rw [Array.toList_push, findK_append]
    have := m.at_ y
    cases hf : findK (encK y) es.toList 0 with
    | none =>
      rw [hf] at this
      simp only [findK]
      by_cases hy : y = x
      · subst hy
        rw [if_pos ((sameKey_iff (m.keyed y) (m.keyed y)).2 rfl), if_pos rfl]
        rfl
      · rw [if_neg (fun e => hy (m.inj _ _ ((sameKey_iff (m.keyed x) (m.keyed y)).1 e)).symm), if_neg hy]
        exact this
    | some p =>
      rw [hf] at this
      by_cases hy : y = x
      · subst hy; rw [m.find_none h] at hf; cases hf
      · rw [if_neg hy]; exact this
  · rw [Array.toList_push] at he
    rcases List.mem_append.1 he with he | he
    · exact m.keys e he
    · simp at he; subst he; exact ⟨x, rfl⟩
  · rw [Array.toList_push] at he
    rcases List.mem_append.1 he with he | he
    · exact m.vals e he
    · simp at he; subst he; exact ⟨v, rfl⟩

/-- an entry written -/
theorem MFun.modify (m : MFun P k encK encV es clock f) {x : K} {j : Nat} {e : MapEntry} (h : findK (encK x) es.toList 0 = some (j, e)) (v : V) : MFun P k encK encV (es.modify j fun e => { e with key := encK x, val := encV v }) clock (fun y => if y = x then some v else f y) := by
  obtain ⟨_, g1, g2⟩ := findK_some (m.keyed x) es.toList 0 m.ok.keys h
  simp only [Nat.sub_zero] at g1
  refine ⟨mapOk_of m.ok (by rw [Array.toList_modify]; exact modify_keys fun e' he => by rw [g1] at he; cases he; exact g2.symm) (by rw [Array.toList_modify]; exact modify_born fun e => rfl), m.keyed, m.inj, fun y => ?_, fun e' he => ?_, fun e' he => ?_⟩
  · have := findK_modify (m.keyed x) (m.keyed y) (g := fun e => { e with key := encK x, val := encV v }) (fun _ => rfl) es.toList 0 m.ok.keys h
    rw [Nat.sub_zero] at this
    rw [Array.toList_modify, this]
    by_cases hy : y = x
    · subst hy; rw [if_pos ((sameKey_iff (m.keyed y) (m.keyed y)).2 rfl), if_pos rfl]; rfl
    · rw [if_neg (fun e1 => hy (m.inj _ _ ((sameKey_iff (m.keyed x) (m.keyed y)).1 e1)).symm), if_neg hy]; exact m.at_ y
  · rw [Array.toList_modify] at he
    obtain ⟨i, hi⟩ := List.mem_iff_getElem?.1 he
    rw [List.getElem?_modify] at hi
    simp only [Option.map_eq_map, Option.map_eq_some_iff] at hi
    obtain ⟨e0, h0, h1⟩ := hi
    obtain ⟨y, hy⟩ := m.keys e0 (List.mem_of_getElem? h0)
    split at h1
    · subst h1; exact ⟨x, rfl⟩
    · subst h1; exact ⟨y, hy⟩
  · rw [Array.toList_modify] at he
    obtain ⟨i, hi⟩ := List.mem_iff_getElem?.1 he
    rw [List.getElem?_modify] at hi
    simp only [Option.map_eq_map, Option.map_eq_some_iff] at hi
    obtain ⟨e0, h0, h1⟩ := hi
    obtain ⟨y, hy⟩ := m.vals e0 (List.mem_of_getElem? h0)
    split at h1
    · subst h1; exact ⟨v, rfl⟩
    · subst h1; exact ⟨y, hy⟩
end
end Go.Am
