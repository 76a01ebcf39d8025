import Derived.Test.YtogefnepdjkioaaAm38
set_option linter.unusedVariables false
set_option linter.unusedSimpArgs false
/- Words: sums and differences. -/
namespace Go.Am
open Go

/-- what is borrowed, what is carried -/
def bor (x y c : UInt64) : UInt64 := if x.toNat < y.toNat + c.toNat then 1 else 0
def car (x y c : UInt64) : UInt64 := if 2 ^ 64 ≤ x.toNat + y.toNat + c.toNat then 1 else 0
theorem bor_le (x y c : UInt64) : (bor x y c).toNat ≤ 1 := by unfold bor; split <;> decide
theorem car_le (x y c : UInt64) : (car x y c).toNat ≤ 1 := by unfold car; split <;> decide
theorem sub_step (x y c : UInt64) (hc : c.toNat ≤ 1) : (((x - y - c).toNat : Nat) : Int) = x.toNat - y.toNat - c.toNat + 2 ^ 64 * (bor x y c).toNat := by
  have h1 := x.toNat_lt; have h2 := y.toNat_lt
  rw [UInt64.toNat_sub, UInt64.toNat_sub]
  unfold bor
  split
  · simp only [UInt64.toNat_one]; omega
  · simp only [UInt64.toNat_zero]; omega
theorem add_step (x y c : UInt64) (hc : c.toNat ≤ 1) : (((x + y + c).toNat : Nat) : Int) = x.toNat + y.toNat + c.toNat - 2 ^ 64 * (car x y c).toNat := by
  have h1 := x.toNat_lt; have h2 := y.toNat_lt
  rw [UInt64.toNat_add, UInt64.toNat_add]
  unfold car
  split
  · simp only [UInt64.toNat_one]; omega
  · simp only [UInt64.toNat_zero]; omega

def sb (a b : Word4) : Nat → Word4 × UInt64
  | 0 => (zeroW, 0)
  | i + 1 => if h : i < 4 then ((sb a b i).1.set i (a[i] - b[i] - (sb a b i).2), bor a[i] b[i] (sb a b i).2) else sb a b i
def ad (a b : Word4) : Nat → Word4 × UInt64
  | 0 => (zeroW, 0)
  | i + 1 => if h : i < 4 then ((ad a b i).1.set i (a[i] + b[i] + (ad a b i).2), car a[i] b[i] (ad a b i).2) else ad a b i
theorem sb_le (a b : Word4) : ∀ i, (sb a b i).2.toNat ≤ 1
  | 0 => by simp [sb]
  | i + 1 => by unfold sb; split; exact bor_le _ _ _; exact sb_le a b i
theorem ad_le (a b : Word4) : ∀ i, (ad a b i).2.toNat ≤ 1
  | 0 => by simp [ad]
  | i + 1 => by unfold ad; split; exact car_le _ _ _; exact ad_le a b i
theorem sb_succ (a b : Word4) {i : Nat} (h : i < 4) : sb a b (i + 1) = ((sb a b i).1.set i (a[i] - b[i] - (sb a b i).2), bor a[i] b[i] (sb a b i).2) := by
  rw [sb, dif_pos h]
theorem ad_succ (a b : Word4) {i : Nat} (h : i < 4) : ad a b (i + 1) = ((ad a b i).1.set i (a[i] + b[i] + (ad a b i).2), car a[i] b[i] (ad a b i).2) := by
  rw [ad, dif_pos h]

/-- what a word is worth -/
def valW (w : Word4) : Nat := w[0].toNat + w[1].toNat * 2 ^ 64 + w[2].toNat * 2 ^ 128 + w[3].toNat * 2 ^ 192
theorem valW_lt (w : Word4) : valW w < 2 ^ 256 := by
  have := w[0].toNat_lt; have := w[1].toNat_lt; have := w[2].toNat_lt; have := w[3].toNat_lt
  unfold valW; omega
theorem valW_inj {a b : Word4} (h : valW a = valW b) : a = b := by
  have := a[0].toNat_lt; have := a[1].toNat_lt; have := a[2].toNat_lt; have := a[3].toNat_lt
  have := b[0].toNat_lt; have := b[1].toNat_lt; have := b[2].toNat_lt; have := b[3].toNat_lt
  unfold valW at h
  apply Vector.ext
  intro i hi
  apply UInt64.toNat_inj.1
  have : i = 0 ∨ i = 1 ∨ i = 2 ∨ i = 3 := by omega
  rcases this with rfl | rfl | rfl | rfl <;> omega

theorem sb_0 (a b : Word4) : sb a b 0 = (zeroW, 0) := rfl
theorem ad_0 (a b : Word4) : ad a b 0 = (zeroW, 0) := rfl
attribute [irreducible] sb ad
theorem sb_self (a b : Word4) {i : Nat} (h : i < 4) : (sb a b (i + 1)).1[i] = a[i] - b[i] - (sb a b i).2 := by
  have e := congrArg Prod.fst (sb_succ a b h)
  simp only at e
  simp only [e, Vector.getElem_set_self]
theorem sb_other (a b : Word4) {i j : Nat} (h : i < 4) (hj : j < 4) (hne : i ≠ j) : (sb a b (i + 1)).1[j] = (sb a b i).1[j] := by
  have e := congrArg Prod.fst (sb_succ a b h)
  simp only at e
  simp only [e, Vector.getElem_set_ne _ _ hne]
theorem sb_snd (a b : Word4) {i : Nat} (h : i < 4) : (sb a b (i + 1)).2 = bor a[i] b[i] (sb a b i).2 := congrArg Prod.snd (sb_succ a b h)
theorem sb_val (a b : Word4) : ((valW (sb a b 4).1 : Nat) : Int) = valW a - valW b + 2 ^ 256 * (sb a b 4).2.toNat := by
  have l0 := sb_le a b 0; have l1 := sb_le a b 1; have l2 := sb_le a b 2; have l3 := sb_le a b 3
  have e0 := sub_step a[0] b[0] (sb a b 0).2 l0
  have e1 := sub_step a[1] b[1] (sb a b 1).2 l1
  have e2 := sub_step a[2] b[2] (sb a b 2).2 l2
  have e3 := sub_step a[3] b[3] (sb a b 3).2 l3
  have c0 : (sb a b 0).2.toNat = 0 := by rw [sb_0]; rfl
  have c1 : (sb a b 1).2 = bor a[0] b[0] (sb a b 0).2 := sb_snd a b (i := 0) (by decide)
  have c2 : (sb a b 2).2 = bor a[1] b[1] (sb a b 1).2 := sb_snd a b (i := 1) (by decide)
  have c3 : (sb a b 3).2 = bor a[2] b[2] (sb a b 2).2 := sb_snd a b (i := 2) (by decide)
  have c4 : (sb a b 4).2 = bor a[3] b[3] (sb a b 3).2 := sb_snd a b (i := 3) (by decide)
  have w0 : (sb a b 4).1[0] = a[0] - b[0] - (sb a b 0).2 := (sb_other a b (i := 3) (j := 0) (by decide) (by decide) (by decide)).trans ((sb_other a b (i := 2) (j := 0) (by decide) (by decide) (by decide)).trans ((sb_other a b (i := 1) (j := 0) (by decide) (by decide) (by decide)).trans (sb_self a b (i := 0) (by decide))))
  have w1 : (sb a b 4).1[1] = a[1] - b[1] - (sb a b 1).2 := (sb_other a b (i := 3) (j := 1) (by decide) (by decide) (by decide)).trans ((sb_other a b (i := 2) (j := 1) (by decide) (by decide) (by decide)).trans (sb_self a b (i := 1) (by decide)))
  have w2 : (sb a b 4).1[2] = a[2] - b[2] - (sb a b 2).2 := (sb_other a b (i := 3) (j := 2) (by decide) (by decide) (by decide)).trans (sb_self a b (i := 2) (by decide))
  have w3 : (sb a b 4).1[3] = a[3] - b[3] - (sb a b 3).2 := sb_self a b (i := 3) (by decide)
  rw [← c1] at e0; rw [← c2] at e1; rw [← c3] at e2; rw [← c4] at e3
  unfold valW
  rw [w0, w1, w2, w3]
  omega
theorem ad_self (a b : Word4) {i : Nat} (h : i < 4) : (ad a b (i + 1)).1[i] = a[i] + b[i] + (ad a b i).2 := by
  have e := congrArg Prod.fst (ad_succ a b h)
  simp only at e
  simp only [e, Vector.getElem_set_self]
theorem ad_other (a b : Word4) {i j : Nat} (h : i < 4) (hj : j < 4) (hne : i ≠ j) : (ad a b (i + 1)).1[j] = (ad a b i).1[j] := by
  have e := congrArg Prod.fst (ad_succ a b h)
  simp only at e
  simp only [e, Vector.getElem_set_ne _ _ hne]
theorem ad_snd (a b : Word4) {i : Nat} (h : i < 4) : (ad a b (i + 1)).2 = car a[i] b[i] (ad a b i).2 := congrArg Prod.snd (ad_succ a b h)
theorem ad_val (a b : Word4) : ((valW (ad a b 4).1 : Nat) : Int) = valW a + valW b - 2 ^ 256 * (ad a b 4).2.toNat := by
  have l0 := ad_le a b 0; have l1 := ad_le a b 1; have l2 := ad_le a b 2; have l3 := ad_le a b 3
  have e0 := add_step a[0] b[0] (ad a b 0).2 l0
  have e1 := add_step a[1] b[1] (ad a b 1).2 l1
  have e2 := add_step a[2] b[2] (ad a b 2).2 l2
  have e3 := add_step a[3] b[3] (ad a b 3).2 l3
  have c0 : (ad a b 0).2.toNat = 0 := by rw [ad_0]; rfl
  have c1 : (ad a b 1).2 = car a[0] b[0] (ad a b 0).2 := ad_snd a b (i := 0) (by decide)
  have c2 : (ad a b 2).2 = car a[1] b[1] (ad a b 1).2 := ad_snd a b (i := 1) (by decide)
  have c3 : (ad a b 3).2 = car a[2] b[2] (ad a b 2).2 := ad_snd a b (i := 2) (by decide)
  have c4 : (ad a b 4).2 = car a[3] b[3] (ad a b 3).2 := ad_snd a b (i := 3) (by decide)
  have w0 : (ad a b 4).1[0] = a[0] + b[0] + (ad a b 0).2 := (ad_other a b (i := 3) (j := 0) (by decide) (by decide) (by decide)).trans ((ad_other a b (i := 2) (j := 0) (by decide) (by decide) (by decide)).trans ((ad_other a b (i := 1) (j := 0) (by decide) (by decide) (by decide)).trans (ad_self a b (i := 0) (by decide))))
  have w1 : (ad a b 4).1[1] = a[1] + b[1] + (ad a b 1).2 := (ad_other a b (i := 3) (j := 1) (by decide) (by decide) (by decide)).trans ((ad_other a b (i := 2) (j := 1) (by decide) (by decide) (by decide)).trans (ad_self a b (i := 1) (by decide)))
  have w2 : (ad a b 4).1[2] = a[2] + b[2] + (ad a b 2).2 := (ad_other a b (i := 3) (j := 2) (by decide) (by decide) (by decide)).trans (ad_self a b (i := 2) (by decide))
  have w3 : (ad a b 4).1[3] = a[3] + b[3] + (ad a b 3).2 := ad_self a b (i := 3) (by decide)
  rw [← c1] at e0; rw [← c2] at e1; rw [← c3] at e2; rw [← c4] at e3
  unfold valW
  rw [w0, w1, w2, w3]
  omega

def notW (w : Word4) : Word4 := #v[~~~w[0], ~~~w[1], ~~~w[2], ~~~w[3]]
def fromW (x : UInt64) : Word4 := #v[x, 0, 0, 0]
def negW (w : Word4) : Word4 := (ad (notW w) (fromW 1) 4).1
def sub2W (a b : Word4) : Word4 := (ad a (negW b) 4).1
theorem notW_val (w : Word4) : valW (notW w) = 2 ^ 256 - 1 - valW w := by
  have h : ∀ x : UInt64, (~~~x).toNat = 2 ^ 64 - 1 - x.toNat := fun x => by rw [UInt64.toNat_not]
  have := w[0].toNat_lt; have := w[1].toNat_lt; have := w[2].toNat_lt; have := w[3].toNat_lt
  have e : valW (notW w) = (~~~w[0]).toNat + (~~~w[1]).toNat * 2 ^ 64 + (~~~w[2]).toNat * 2 ^ 128 + (~~~w[3]).toNat * 2 ^ 192 := rfl
  rw [e, h, h, h, h]
  unfold valW
  omega
theorem sub_same (a b : Word4) : sub2W a b = (sb a b 4).1 := by
  apply valW_inj
  have h1 := sb_val a b
  have h2 := ad_val a (negW b)
  have h3 : ((valW (negW b) : Nat) : Int) = _ := ad_val (notW b) (fromW 1)
  have h4 := notW_val b
  have h5 : valW (fromW 1) = 1 := rfl
  have b1 := sb_le a b 4
  have b2 := ad_le a (negW b) 4
  have b3 := ad_le (notW b) (fromW 1) 4
  have v1 := valW_lt a; have v2 := valW_lt b; have v3 := valW_lt (sb a b 4).1; have v4 := valW_lt (ad a (negW b) 4).1; have v5 := valW_lt (negW b)
  show valW (ad a (negW b) 4).1 = _
  omega
theorem sb_borrow (a b : Word4) : ((sb a b 4).2.toNat = 0) ↔ valW b ≤ valW a := by
  have h1 := sb_val a b
  have b1 := sb_le a b 4
  have v1 := valW_lt a; have v2 := valW_lt b; have v3 := valW_lt (sb a b 4).1
  omega

theorem acarry_sub (x y c : UInt64) (hc : c.toNat ≤ 1) : acarry false (.int .u64 ((x.toNat : Nat) : Int)) (.int .u64 ((y.toNat : Nat) : Int)) (.int .u64 ((c.toNat : Nat) : Int)) = some (.tuple #[.int .u64 (((x - y - c).toNat : Nat) : Int), .int .u64 (((bor x y c).toNat : Nat) : Int)]) := by
  have e := sub_step x y c hc
  have h1 := x.toNat_lt; have h2 := y.toNat_lt; have h3 := (x - y - c).toNat_lt
  have hb : (bor x y c).toNat = if x.toNat < y.toNat + c.toNat then 1 else 0 := by unfold bor; split <;> rfl
  simp only [acarry, Int.toNat_natCast, hc, if_true, Bool.false_eq_true, if_false]
  have e1 : (x.toNat + 2 ^ 64 - y.toNat - c.toNat) % 2 ^ 64 = (x - y - c).toNat := by
    rw [hb] at e
    split at e <;> omega
  rw [e1, hb]
  rfl
section
variable {P : Program} {h : AH}
theorem acall_sub64 {F : FuncId} {x y c : Value} (hb : hasBody P F = false) (h1 : isName P F "math/bits.Add64" = false) (h2 : isName P F "math/bits.Sub64" = true) : acall P h (.func (.func F) #[] #[]) #[x, y, c] = aval h (acarry false x y c) := by
  simp [acall, hb, aextern, h1, h2]
theorem acall_add64 {F : FuncId} {x y c : Value} (hb : hasBody P F = false) (h1 : isName P F "math/bits.Add64" = true) : acall P h (.func (.func F) #[] #[]) #[x, y, c] = aval h (acarry true x y c) := by
  simp [acall, hb, aextern, h1]
theorem aun_xorW (x : UInt64) : aunOp P .xor (.int .u64 ((x.toNat : Nat) : Int)) = some (.int .u64 (((~~~x).toNat : Nat) : Int)) := by
  show some (Value.int .u64 (IntKind.u64.wrap (BitVec.ofInt 64 (if IntKind.u64.signed then -1 else IntKind.u64.max) ^^^ BitVec.ofInt 64 ((x.toNat : Nat) : Int)).toNat)) = _
  have e : (BitVec.ofInt 64 (if IntKind.u64.signed then -1 else IntKind.u64.max) ^^^ BitVec.ofInt 64 ((x.toNat : Nat) : Int)).toNat = (~~~x).toNat := by
    have e0 : BitVec.ofInt 64 (if IntKind.u64.signed then -1 else IntKind.u64.max) = BitVec.allOnes 64 := by decide
    rw [e0, BitVec.allOnes_xor, BitVec.ofInt_natCast]
    simp [UInt64.toNat_not]
  rw [e]
  have := (~~~x).toNat_lt
  rw [wrap_u64_of _ (by omega) (by omega)]
end
attribute [go_sem] aun_xorW
end Go.Am
