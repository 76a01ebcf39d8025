import Derived.Test.YtogefnepdjkioaaAm39
set_option linter.unusedVariables false
set_option linter.unusedSimpArgs false
/- Bytes: as strings; written. -/
namespace Go.Am
open Go

theorem flat_u8 (l : List UInt8) : flatV encU8 l = (l.map fun b => Value.int .u8 b.toNat).toArray := by
  simp only [flatV, encU8]
  congr 1
  induction l with
  | nil => rfl
  | cons x l ih => rw [List.flatMap_cons, ih, List.map_cons]; rfl
theorem size_u8 (l : List UInt8) : (flatV encU8 l).size = l.length := by simp [flat_u8]
theorem set_u8 (l : List UInt8) (k : Nat) (b : UInt8) : (flatV encU8 l).setIfInBounds k (.int .u8 ((b.toNat : Nat) : Int)) = flatV encU8 (l.set k b) := by
  rw [flat_u8, flat_u8, List.setIfInBounds_toArray, List.map_set]
theorem bytesIn_u8 (l : List UInt8) : bytesIn (l.map fun b => Value.int .u8 b.toNat) = some l := by
  induction l with
  | nil => rfl
  | cons x l ih => simp [bytesIn, ih]
/-- bytes as a string -/
theorem aconv_slV {P : Program} {h : AH} {src dst e : TypeId} {s : Sl UInt8} (hs : P.underlying src = some (.slice e)) (he : P.underlying e = some (.int .u8)) (hd : P.underlying dst = some .string) :
    aconvert P h src dst (slV encU8 s) = some (.string ⟨s.l.toArray⟩, h) := by
  unfold slV
  cases hn : s.nil with
  | true =>
    rw [s.ok hn]
    simp only [cond_true, aconvert, hs, hd, he]
    rfl
  | false =>
    simp only [cond_false]
    have : aconvert P h src dst (fz (flatV encU8 s.l) s.l.length) = if s.l.length ≤ (flatV encU8 s.l).size then (bytesIn ((flatV encU8 s.l).extract 0 s.l.length).toList).map fun l => (.string ⟨l.toArray⟩, h) else none := by
      simp only [aconvert, fz, hs, hd, he, fzN_lit]
    rw [this, if_pos (by rw [size_u8]; exact Nat.le_refl _)]
    have e1 : ((flatV encU8 s.l).extract 0 s.l.length).toList = s.l.map fun b => Value.int .u8 b.toNat := by
      rw [← size_u8 s.l, Array.extract_size, flat_u8]
    rw [e1, bytesIn_u8]
    rfl
theorem str_toList (l : List UInt8) : (⟨l.toArray⟩ : ByteArray).toList = l := by
  rw [Lib.toList_data]

/-- the bytes of a word, so far -/
def blW (w : Word4) (i : Nat) : List UInt8 := (List.range 32).map fun j => if 32 - i ≤ j then byteW w (31 - j) else 0
theorem length_blW (w : Word4) (i : Nat) : (blW w i).length = 32 := by simp [blW]
theorem blW_32 (w : Word4) : blW w 32 = bytesW w := by simp [blW, bytesW]
theorem blW_set (w : Word4) {i : Nat} (hi : i < 32) : (blW w i).set (31 - i) (byteW w i) = blW w (i + 1) := by
  apply List.ext_getElem
  · simp [blW]
  · intro j h1 h2
    have hj : j < 32 := by simpa [blW] using h2
    rw [List.getElem_set]
    simp only [blW, List.getElem_map, List.getElem_range]
    by_cases he : 31 - i = j
    · rw [if_pos he, if_pos (by omega)]
      congr 1; omega
    · rw [if_neg he]
      by_cases h3 : 32 - i ≤ j
      · rw [if_pos h3, if_pos (by omega)]
      · rw [if_neg h3, if_neg (by omega)]
theorem zeros_u8 (w : Word4) : zeros #[.int .u8 0] 32 = flatV encU8 (blW w 0) := by
  have e : blW w 0 = List.replicate 32 0 := by
    apply List.ext_getElem
    · simp [blW]
    · intro j h1 h2
      have hj : j < 32 := by simpa using h2
      simp only [blW, List.getElem_map, List.getElem_range, List.getElem_replicate]
      rw [if_neg (by omega)]
  rw [e, flat_u8]
  unfold zeros
  apply Array.ext
  · simp
  · intro i h1 h2
    simp only [Array.getElem_map, List.getElem_toArray, List.getElem_map, List.getElem_replicate]
    have : i % (#[Value.int IntKind.u8 0] : Array Value).size = 0 := Nat.mod_one _
    simp only [Array.getElem_range, this]
    rfl
theorem u8_shr (w : Word4) {i : Nat} (hi : i < 32) (h4 : i / 8 < 4) : IntKind.u8.wrap ((((w[i / 8].toNat : Nat) : Int)).fdiv (2 ^ (min (8 * (i % 8)) 64))) = (((byteW w i).toNat : Nat) : Int) := by
  have e : min (8 * (i % 8)) 64 = 8 * (i % 8) := by omega
  have e2 : (((w[i / 8].toNat : Nat) : Int)).fdiv (2 ^ (8 * (i % 8))) = ((w[i / 8].toNat / 2 ^ (8 * (i % 8)) : Nat) : Int) := by
    rw [Int.fdiv_eq_ediv_of_nonneg _ (Int.le_of_lt (Int.pow_pos (by decide)))]
    simp
  rw [e, e2]
  unfold byteW
  rw [dif_pos h4, UInt8.toNat_ofNat']
  simp only [IntKind.wrap, IntKind.bits, IntKind.signed, Bool.false_and, Bool.false_eq_true, if_false]
  omega
end Go.Am
