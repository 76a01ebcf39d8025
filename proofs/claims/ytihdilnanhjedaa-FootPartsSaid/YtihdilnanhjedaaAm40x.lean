import Derived.Test.YtihdilnanhjedaaAm37x
set_option linter.unusedVariables false
set_option linter.unusedSimpArgs false
/- Bytes: as strings; written. -/
namespace Go.Am
open Go

theorem flat_u8 (l : List UInt8) : flatV encU8 l = (l.map fun b => Value.int .u8 b.toNat).toArray := by
  simp only [flatV, encU8]
  congr 1
  induction l with
  | nil => rfl
  | cons x l ih => rw [List.flatMap_cons, ih, List.map_cons]; rfl
theorem size_u8 (l : List UInt8) : (flatV encU8 l).size = l.length := by simp [flat_u8]
theorem set_u8 (l : List UInt8) (k : Nat) (b : UInt8) : (flatV encU8 l).setIfInBounds k (.int .u8 ((b.toNat : Nat) : Int)) = flatV encU8 (l.set k b) := by
  rw [flat_u8, flat_u8, List.setIfInBounds_toArray, List.map_set]
theorem bytesIn_u8 (l : List UInt8) : bytesIn (l.map fun b => Value.int .u8 b.toNat) = some l := by
  induction l with
  | nil => rfl
  | cons x l ih => simp [bytesIn, ih]
/-- bytes as a string -/
theorem aconv_slV {P : Program} {h : AH} {src dst e : TypeId} {s : Sl UInt8} (hs : P.underlying src = some (.slice e)) (he : P.underlying e = some (.int .u8)) (hd : P.underlying dst = some .string) :
    aconvert P h src dst (slV encU8 s) = some (.string ⟨s.l.toArray⟩, h) := by
  unfold slV
  cases hn : s.nil with
  | true =>
    rw [s.ok hn]
    simp only [cond_true, aconvert, hs, hd, he]
    rfl
  | false =>
    simp only [cond_false]
    have : aconvert P h src dst (fz (flatV encU8 s.l) s.l.length) = if s.l.length ≤ (flatV encU8 s.l).size then (bytesIn ((flatV encU8 s.l).extract 0 s.l.length).toList).map fun l => (.string ⟨l.toArray⟩, h) else none := by
      simp only [aconvert, fz, hs, hd, he, fzN_lit]
    rw [this, if_pos (by rw [size_u8]; exact Nat.le_refl _)]
    have e1 : ((flatV encU8 s.l).extract 0 s.l.length).toList = s.l.map fun b => Value.int .u8 b.toNat := by
      rw [← size_u8 s.l, Array.extract_size, flat_u8]
    rw [e1, bytesIn_u8]
    rfl
theorem str_toList (l : List UInt8) : (⟨l.toArray⟩ : ByteArray).toList = l := by
  rw [Lib.toList_data]

/-- the bytes of a word, so far -/
def blW (w : Word4) (i : Nat) : List UInt8 := (List.range 32).map fun j => if 32 - i ≤ j then byteW w (31 - j) else 0
theorem length_blW (w : Word4) (i : Nat) : (blW w i).length = 32 := by simp [blW]
theorem blW_32 (w : Word4) : blW w 32 = bytesW w := by simp [blW, bytesW]
theorem blW_set (w : Word4) {i : Nat} (hi : i < 32) : (blW w i).set (31 - i) (byteW w i) = blW w (i + 1) := by
  apply List.ext_getElem
  · simp [blW]
  · intro j h1 h2
    have hj : j < 32 := by simpa [blW] using h2
    rw [List.getElem_set]
    simp only [blW, List.getElem_map, List.getElem_range]
    by_cases he : 31 - i = j
    · rw [if_pos he, if_pos (by omega)]
      congr 1; omega
    · rw [if_neg he]
      by_cases h3 : 32 - i ≤ j
      · rw [if_pos h3, if_pos (by omega)]
      · rw [if_neg h3, if_neg (by omega)]
theorem zeros_u8 (w : Word4) : zeros #[.int .u8 0] 32 = flatV encU8 (blW w 0) := by
  have e : blW w 0 = List.replicate 32 0 := by
    apply List.ext_getElem
    · simp [blW]
    · intro j h1 h2
      have hj : j < 32 := by simpa using h2
      simp only [blW, List.getElem_map, List.getElem_range, List.getElem_replicate]
      rw [if_neg (by omega)]
  rw [e, flat_u8]
  unfold zeros
  apply Array.ext
  · simp
  · intro i h1 h2
    simp only [Array.getElem_map, List.getElem_toArray, List.getElem_map, List.getElem_replicate]
    have : i % (#[Value.int IntKind.u8 0] : Array Value).size = 0 := Nat.mod_one _
    simp only [Array.getElem_range, this]
    rfl
theorem u8_shr (w : Word4) {i : Nat} (hi : i < 32) (h4 : i / 8 < 4) : IntKind.u8.wrap ((((w[i / 8].toNat : Nat) : Int)).fdiv (2 ^ (min (8 * (i % 8)) 64))) = (((byteW w i).toNat : Nat) : Int) := by
  have e : min (8 * (i % 8)) 64 = 8 * (i % 8) := by omega
  have e2 : (((w[i / 8].toNat : Nat) : Int)).fdiv (2 ^ (8 * (i % 8))) = ((w[i / 8].toNat / 2 ^ (8 * (i % 8)) : Nat) : Int) := by
    rw [Int.fdiv_eq_ediv_of_nonneg _ (Int.le_of_lt (Int.pow_pos (by decide)))]
    simp
  rw [e, e2]
  unfold byteW
  rw [dif_pos h4, UInt8.toNat_ofNat']
  simp only [IntKind.wrap, IntKind.bits, IntKind.signed, Bool.false_and, Bool.false_eq_true, if_false]
  omega
end Go.Am
set_option linter.unusedVariables false
set_option linter.unusedSimpArgs false
/- Numbers of 32 bits. -/
namespace Go.Am
open Go

def enc32 (b : UInt32) : List Value := [.int .u32 b.toNat]
theorem length_enc32 (a : UInt32) : (enc32 a).length = 1 := rfl
theorem load_enc32 {l : List UInt32} {i : Nat} (hi : i < l.length) : mkLoadF (flatV enc32 l) i (some (false, 1)) = some (.int .u32 (l[i].toNat : Nat)) := loadF_one (f := fun b : UInt32 => .int .u32 b.toNat) hi
attribute [go_sem] length_enc32 load_enc32
theorem tree_enc32 (a : UInt32) : ∀ v ∈ enc32 a, Tree v := by
  intro v hv; simp only [enc32, List.mem_singleton] at hv; subst hv; exact .plain _ rfl
def shlN (a : UInt32) (n : Nat) : UInt32 := UInt32.ofNat (a.toNat * 2 ^ n)
def shrN (a : UInt32) (n : Nat) : UInt32 := UInt32.ofNat (a.toNat / 2 ^ n)
def ror (a : UInt32) (n : Nat) : UInt32 := shrN a n ||| shlN a (32 - n)

theorem wrap32 (n : Nat) : IntKind.u32.wrap ((n : Nat) : Int) = ((n % 4294967296 : Nat) : Int) := by
  simp only [IntKind.wrap, IntKind.bits, IntKind.signed, Bool.false_and, Bool.false_eq_true, if_false]
  omega
theorem wrap32_ofNat (n : Nat) : IntKind.u32.wrap ((n : Nat) : Int) = (((UInt32.ofNat n).toNat : Nat) : Int) := by
  rw [wrap32, UInt32.toNat_ofNat']
theorem wrap8 (n : Nat) : IntKind.u8.wrap ((n : Nat) : Int) = (((UInt8.ofNat n).toNat : Nat) : Int) := by
  rw [UInt8.toNat_ofNat']
  simp only [IntKind.wrap, IntKind.bits, IntKind.signed, Bool.false_and, Bool.false_eq_true, if_false]
  omega
section
variable {P : Program} {t : TypeId} {x y : Operand}
theorem abin_add32 (a b : UInt32) : abinOp P .add t x y (.int .u32 ((a.toNat : Nat) : Int)) (.int .u32 ((b.toNat : Nat) : Int)) = some (.int .u32 (((a + b).toNat : Nat) : Int)) := by
  rw [abin_add]
  have e : ((a.toNat : Nat) : Int) + ((b.toNat : Nat) : Int) = ((a.toNat + b.toNat : Nat) : Int) := by push_cast; rfl
  rw [e, wrap32, UInt32.toNat_add]
theorem bits32 (f : BitVec 32 → BitVec 32 → BitVec 32) (g : UInt32 → UInt32 → UInt32) (h : ∀ a b, (g a b).toBitVec = f a.toBitVec b.toBitVec) (a b : UInt32) :
    IntKind.u32.wrap ((f (BitVec.ofInt 32 ((a.toNat : Nat) : Int)) (BitVec.ofInt 32 ((b.toNat : Nat) : Int))).toNat : Nat) = (((g a b).toNat : Nat) : Int) := by
  have e : ∀ a : UInt32, BitVec.ofInt 32 ((a.toNat : Nat) : Int) = a.toBitVec := by intro a; rw [BitVec.ofInt_natCast]; simp
  rw [e, e, ← h, wrap32]
  have := (g a b).toNat_lt
  have e2 : (g a b).toBitVec.toNat = (g a b).toNat := rfl
  rw [e2, Nat.mod_eq_of_lt (by omega)]
theorem abin_or32 (a b : UInt32) : abinOp P .or t x y (.int .u32 ((a.toNat : Nat) : Int)) (.int .u32 ((b.toNat : Nat) : Int)) = some (.int .u32 (((a ||| b).toNat : Nat) : Int)) := by
  rw [abin_or]
  exact congrArg (fun n => some (Value.int .u32 n)) (bits32 (· ||| ·) (· ||| ·) (fun _ _ => rfl) a b)
theorem abin_and32 (a b : UInt32) : abinOp P .and t x y (.int .u32 ((a.toNat : Nat) : Int)) (.int .u32 ((b.toNat : Nat) : Int)) = some (.int .u32 (((a &&& b).toNat : Nat) : Int)) := by
  rw [abin_and]
  exact congrArg (fun n => some (Value.int .u32 n)) (bits32 (· &&& ·) (· &&& ·) (fun _ _ => rfl) a b)
theorem abin_xor32 (a b : UInt32) : abinOp P .xor t x y (.int .u32 ((a.toNat : Nat) : Int)) (.int .u32 ((b.toNat : Nat) : Int)) = some (.int .u32 (((a ^^^ b).toNat : Nat) : Int)) := by
  rw [abin_xor]
  exact congrArg (fun n => some (Value.int .u32 n)) (bits32 (· ^^^ ·) (· ^^^ ·) (fun _ _ => rfl) a b)
theorem aun_xor32 (x : UInt32) : aunOp P .xor (.int .u32 ((x.toNat : Nat) : Int)) = some (.int .u32 (((~~~x).toNat : Nat) : Int)) := by
  show some (Value.int .u32 (IntKind.u32.wrap (BitVec.ofInt 32 (if IntKind.u32.signed then -1 else IntKind.u32.max) ^^^ BitVec.ofInt 32 ((x.toNat : Nat) : Int)).toNat)) = _
  have e : (BitVec.ofInt 32 (if IntKind.u32.signed then -1 else IntKind.u32.max) ^^^ BitVec.ofInt 32 ((x.toNat : Nat) : Int)).toNat = (~~~x).toNat := by
    have e0 : BitVec.ofInt 32 (if IntKind.u32.signed then -1 else IntKind.u32.max) = BitVec.allOnes 32 := by decide
    rw [e0, BitVec.allOnes_xor, BitVec.ofInt_natCast]
    simp [UInt32.toNat_not]
  rw [e]
  have := (~~~x).toNat_lt
  rw [wrap_u32_of _ (by omega) (by omega)]
theorem abin_shl32 (a : UInt32) {k : IntKind} (n : Nat) : abinOp P .shl t x y (.int .u32 ((a.toNat : Nat) : Int)) (.int k ((n : Nat) : Int)) = some (.int .u32 (((shlN a n).toNat : Nat) : Int)) := by
  rw [abin_shl (by omega)]
  have e : ((a.toNat : Nat) : Int) * 2 ^ (min ((n : Nat) : Int).toNat IntKind.u32.bits) = ((a.toNat * 2 ^ (min n 32) : Nat) : Int) := by push_cast; rfl
  rw [e, wrap32, shlN, UInt32.toNat_ofNat']
  by_cases h : n ≤ 32
  · rw [Nat.min_eq_left h]
  · rw [Nat.min_eq_right (by omega)]
    have e2 : 2 ^ n = 2 ^ 32 * 2 ^ (n - 32) := by rw [← Nat.pow_add]; congr 1; omega
    have e3 : a.toNat * 2 ^ n = 2 ^ 32 * (a.toNat * 2 ^ (n - 32)) := by rw [e2]; simp only [Nat.mul_left_comm]
    rw [e3, Nat.mul_mod_right, Nat.mul_comm, Nat.mul_mod_right]
theorem abin_shr32 (a : UInt32) {k : IntKind} (n : Nat) : abinOp P .shr t x y (.int .u32 ((a.toNat : Nat) : Int)) (.int k ((n : Nat) : Int)) = some (.int .u32 (((shrN a n).toNat : Nat) : Int)) := by
  rw [abin_shr (by omega)]
  have e : (((a.toNat : Nat) : Int)).fdiv (2 ^ (min ((n : Nat) : Int).toNat IntKind.u32.bits)) = ((a.toNat / 2 ^ (min n 32) : Nat) : Int) := by
    rw [Int.fdiv_eq_ediv_of_nonneg _ (Int.le_of_lt (Int.pow_pos (by decide)))]
    push_cast; rfl
  have ha := a.toNat_lt
  have h2 : a.toNat / 2 ^ n = a.toNat / 2 ^ (min n 32) := by
    by_cases h : n ≤ 32
    · rw [Nat.min_eq_left h]
    · rw [Nat.min_eq_right (by omega)]
      have e2 : 2 ^ 32 ≤ 2 ^ n := Nat.pow_le_pow_right (by decide) (by omega)
      rw [Nat.div_eq_of_lt (by omega), Nat.div_eq_of_lt (by omega)]
  have h3 : a.toNat / 2 ^ n ≤ a.toNat := Nat.div_le_self _ _
  rw [e, shrN, UInt32.toNat_ofNat', ← h2, Nat.mod_eq_of_lt (by omega)]
theorem abin_shl8 (a : UInt32) : abinOp P .shl t x y (.int .u32 ((a.toNat : Nat) : Int)) (.int .u64 8) = some (.int .u32 (((shlN a 8).toNat : Nat) : Int)) := abin_shl32 a 8
theorem abin_shl16 (a : UInt32) : abinOp P .shl t x y (.int .u32 ((a.toNat : Nat) : Int)) (.int .u64 16) = some (.int .u32 (((shlN a 16).toNat : Nat) : Int)) := abin_shl32 a 16
theorem abin_shl24 (a : UInt32) : abinOp P .shl t x y (.int .u32 ((a.toNat : Nat) : Int)) (.int .u64 24) = some (.int .u32 (((shlN a 24).toNat : Nat) : Int)) := abin_shl32 a 24
theorem abin_shr3 (a : UInt32) : abinOp P .shr t x y (.int .u32 ((a.toNat : Nat) : Int)) (.int .u64 3) = some (.int .u32 (((shrN a 3).toNat : Nat) : Int)) := abin_shr32 a 3
theorem abin_shr8 (a : UInt32) : abinOp P .shr t x y (.int .u32 ((a.toNat : Nat) : Int)) (.int .u64 8) = some (.int .u32 (((shrN a 8).toNat : Nat) : Int)) := abin_shr32 a 8
theorem abin_shr10 (a : UInt32) : abinOp P .shr t x y (.int .u32 ((a.toNat : Nat) : Int)) (.int .u64 10) = some (.int .u32 (((shrN a 10).toNat : Nat) : Int)) := abin_shr32 a 10
theorem abin_shr16 (a : UInt32) : abinOp P .shr t x y (.int .u32 ((a.toNat : Nat) : Int)) (.int .u64 16) = some (.int .u32 (((shrN a 16).toNat : Nat) : Int)) := abin_shr32 a 16
theorem abin_shr24 (a : UInt32) : abinOp P .shr t x y (.int .u32 ((a.toNat : Nat) : Int)) (.int .u64 24) = some (.int .u32 (((shrN a 24).toNat : Nat) : Int)) := abin_shr32 a 24
end
attribute [go_sem high] abin_add32 abin_or32 abin_and32 abin_xor32 abin_shl8 abin_shl16 abin_shl24 abin_shr3 abin_shr8 abin_shr10 abin_shr16 abin_shr24
attribute [go_sem] aun_xor32
/-- a byte, wide -/
def b32 (b : UInt8) : UInt32 := UInt32.ofNat b.toNat
theorem conv_b32 (b : UInt8) : IntKind.u32.wrap ((b.toNat : Nat) : Int) = (((b32 b).toNat : Nat) : Int) := wrap32_ofNat _
def lo8 (a : UInt32) : UInt8 := UInt8.ofNat a.toNat
theorem conv_lo8 (a : UInt32) : IntKind.u8.wrap ((a.toNat : Nat) : Int) = (((lo8 a).toNat : Nat) : Int) := wrap8 _
attribute [go_sem high] conv_b32 conv_lo8
end Go.Am
set_option linter.unusedVariables false
set_option linter.unusedSimpArgs false
/- A hash, as a fold over blocks. -/
namespace Go.Am
open Go

theorem flat_32 (l : List UInt32) : flatV enc32 l = (l.map fun b => Value.int .u32 b.toNat).toArray := by
  simp only [flatV, enc32]
  congr 1
  induction l with
  | nil => rfl
  | cons x l ih => rw [List.flatMap_cons, ih, List.map_cons]; rfl
theorem size_32 (l : List UInt32) : (flatV enc32 l).size = l.length := by simp [flat_32]
theorem get_32 {l : List UInt32} {i : Nat} (hi : i < l.length) : (flatV enc32 l)[i]? = some (.int .u32 ((l[i].toNat : Nat) : Int)) := by
  simp [flat_32, hi]
theorem get_u8 {l : List UInt8} {i : Nat} (hi : i < l.length) : (flatV encU8 l)[i]? = some (.int .u8 ((l[i].toNat : Nat) : Int)) := by
  simp [flat_u8, hi]
theorem set_32 (l : List UInt32) (k : Nat) (b : UInt32) : (flatV enc32 l).setIfInBounds k (.int .u32 ((b.toNat : Nat) : Int)) = flatV enc32 (l.set k b) := by
  rw [flat_32, flat_32, List.setIfInBounds_toArray, List.map_set]
theorem front_32 {a b : List UInt32} {k : Nat} (hk : k < a.length) : (flatV enc32 (a ++ b))[k]? = some (.int .u32 (((a.getD k 0).toNat : Nat) : Int)) := by
  rw [get_32 (by simp; omega)]
  simp [List.getElem_append, hk, List.getD, List.getElem?_eq_getElem hk]
theorem mid_32 {a b : List UInt32} {x : UInt32} {k : Nat} (hk : a.length = k) : (flatV enc32 (a ++ x :: b))[k]? = some (.int .u32 ((x.toNat : Nat) : Int)) := by
  subst hk
  rw [get_32 (by simp)]
  simp
theorem setmid_32 {a b : List UInt32} {x y : UInt32} {k : Nat} (hk : a.length = k) : (flatV enc32 (a ++ x :: b)).setIfInBounds k (.int .u32 ((y.toNat : Nat) : Int)) = flatV enc32 (a ++ y :: b) := by
  subst hk
  rw [set_32]
  simp
/-- the first sixteen -/
def partW (l : List UInt8) (i : Nat) : Nat → UInt32
  | 0 => 0
  | j + 1 => shlN (partW l i j) 8 ||| b32 (l.getD (4 * i + j) 0)
def wd (l : List UInt8) (i : Nat) : UInt32 := partW l i 4
def wds (l : List UInt8) (i : Nat) : List UInt32 := (List.range i).map (wd l)
theorem length_wds (l : List UInt8) (i : Nat) : (wds l i).length = i := by simp [wds]
theorem wds_succ (l : List UInt8) (i : Nat) : wds l (i + 1) = wds l i ++ [wd l i] := by simp [wds, List.range_succ]
/-- one more -/
def nextW (w : List UInt32) : UInt32 :=
  let n := w.length
  w.getD (n - 16) 0 + (ror (w.getD (n - 15) 0) 7 ^^^ ror (w.getD (n - 15) 0) 18 ^^^ shrN (w.getD (n - 15) 0) 3) + w.getD (n - 7) 0 + (ror (w.getD (n - 2) 0) 17 ^^^ ror (w.getD (n - 2) 0) 19 ^^^ shrN (w.getD (n - 2) 0) 10)
def sched (l : List UInt8) : Nat → List UInt32
  | 0 => wds l 16
  | k + 1 => sched l k ++ [nextW (sched l k)]
theorem length_sched (l : List UInt8) : ∀ k, (sched l k).length = 16 + k
  | 0 => length_wds l 16
  | k + 1 => by simp [sched, length_sched l k]; omega
/-- eight numbers -/
structure S8 where
  (a b c d e f g h : UInt32)
def S8.l (s : S8) : List UInt32 := [s.a, s.b, s.c, s.d, s.e, s.f, s.g, s.h]
def upS (s : S8) (k w : UInt32) : UInt32 := s.h + (ror s.e 6 ^^^ ror s.e 11 ^^^ ror s.e 25) + (s.e &&& s.f ^^^ ~~~s.e &&& s.g) + k + w
def overS (s : S8) : UInt32 := (ror s.a 2 ^^^ ror s.a 13 ^^^ ror s.a 22) + (s.a &&& s.b ^^^ s.a &&& s.c ^^^ s.b &&& s.c)
def rnd (s : S8) (k w : UInt32) : S8 := ⟨upS s k w + overS s, s.a, s.b, s.c, s.d + upS s k w, s.e, s.f, s.g⟩
/-- so many rounds -/
def rnds (ks ws : List UInt32) (s : S8) : Nat → S8
  | 0 => s
  | t + 1 => rnd (rnds ks ws s t) (ks.getD t 0) (ws.getD t 0)
def S8.add (s v : S8) : S8 := ⟨s.a + v.a, s.b + v.b, s.c + v.c, s.d + v.d, s.e + v.e, s.f + v.f, s.g + v.g, s.h + v.h⟩
def takeS (ks : List UInt32) (s : S8) (block : List UInt8) : S8 := s.add (rnds ks (sched block 48) s 64)
/-- blocks of 64, from the front -/
def foldB (ks : List UInt32) : Nat → S8 → List UInt8 → S8
  | 0, s, _ => s
  | n + 1, s, l => foldB ks n (takeS ks s (l.take 64)) (l.drop 64)
theorem foldB_succ (ks : List UInt32) : ∀ (n : Nat) (s : S8) (l : List UInt8), foldB ks (n + 1) s l = takeS ks (foldB ks n s l) ((l.drop (64 * n)).take 64)
  | 0, s, l => by simp [foldB]
  | n + 1, s, l => by
    rw [foldB, foldB_succ ks n]
    simp only [foldB, List.drop_drop]
    have e : 64 + 64 * n = 64 * (n + 1) := by omega
    rw [e]
theorem foldB_append (ks : List UInt32) : ∀ (n m : Nat) (s : S8) (a b : List UInt8), a.length = 64 * n → foldB ks (n + m) s (a ++ b) = foldB ks m (foldB ks n s a) b
  | 0, m, s, a, b, h => by
    have : a = [] := List.eq_nil_of_length_eq_zero (by omega)
    subst this
    simp [foldB]
  | n + 1, m, s, a, b, h => by
    have e : n + 1 + m = (n + m) + 1 := by omega
    rw [e, foldB, foldB]
    have h1 : (a ++ b).take 64 = a.take 64 := by rw [List.take_append_of_le_length (by omega)]
    have h2 : (a ++ b).drop 64 = a.drop 64 ++ b := by rw [List.drop_append_of_le_length (by omega)]
    rw [h1, h2]
    exact foldB_append ks n m _ _ _ (by simp; omega)
theorem foldB_take (ks : List UInt32) : ∀ (n : Nat) (s : S8) (a b : List UInt8), a.length = 64 * n → foldB ks n s (a ++ b) = foldB ks n s a
  | 0, s, a, b, h => rfl
  | n + 1, s, a, b, h => by
    rw [foldB, foldB]
    have h1 : (a ++ b).take 64 = a.take 64 := by rw [List.take_append_of_le_length (by omega)]
    have h2 : (a ++ b).drop 64 = a.drop 64 ++ b := by rw [List.drop_append_of_le_length (by omega)]
    rw [h1, h2]
    exact foldB_take ks n _ _ _ (by simp; omega)
/-- the length, in eight bytes -/
def be8 (n : Nat) : List UInt8 := (List.range 8).map fun i => UInt8.ofNat (n / 2 ^ (8 * (7 - i)))
/-- what is filled up -/
def padN (n : Nat) : Nat := if n % 64 < 56 then 55 - n % 64 else 119 - n % 64
def padded (b : List UInt8) : List UInt8 := b ++ (128 : UInt8) :: (List.replicate (padN b.length) 0 ++ be8 (8 * b.length))
theorem length_be8 (n : Nat) : (be8 n).length = 8 := by simp [be8]
theorem length_padded (b : List UInt8) : (padded b).length = 64 * (b.length / 64 + if b.length % 64 < 56 then 1 else 2) := by
  simp only [padded, List.length_append, List.length_cons, List.length_replicate, length_be8, padN]
  split <;> omega
def startS : S8 := ⟨1779033703, 3144134277, 1013904242, 2773480762, 1359893119, 2600822924, 528734635, 1541459225⟩
def hashS (ks : List UInt32) (b : List UInt8) : S8 := foldB ks (b.length / 64 + if b.length % 64 < 56 then 1 else 2) startS (padded b)
def four (x : UInt32) : List UInt8 := [lo8 (shrN x 24), lo8 (shrN x 16), lo8 (shrN x 8), lo8 x]
def bytesS (s : S8) : List UInt8 := s.l.flatMap four
end Go.Am
