import Derived.Test.YtihdilnanhjedaaAm40x
import Derived.LaidMore
import Derived.OpenShut
import Derived.ChangeArms
set_option linter.unusedVariables false
set_option linter.unusedSimpArgs false
/- Copying; eight numbers; a block of the caller's that is written. -/
namespace Go.Am
open Go

def mkCopyS (h : AH) (b o k m : Nat) (cs : Array Value) : Option AObj → Option (Value × AH)
  | some (.cells c es true) => if o + k * m ≤ c.size then some (.int .i64 (k : Nat), h.set b (.cells (blit c o (cs.extract 0 (k * m)).toList) es true)) else none
  | _ => none
theorem acopy_s {P : Program} {h : AH} {t : TypeId} {g : Bool} {m by_ b o dLen cap n : Nat} {cs : Array Value} {s : Value} (ha : slc P t = some (g, m, by_)) (hs : asource h m s = some (n, cs)) :
    acopy P h t (.slice (some ⟨b, o, none⟩) dLen cap) s = if min n dLen * m = 0 then some (.int .i64 (min n dLen : Nat), h) else mkCopyS h b o (min n dLen) m cs h[b]? := by
  obtain ⟨elem, ie, hu, _, hie, rfl, _⟩ := slc_spec ha
  simp only [acopy, hu, hie, hs]
  split
  · rfl
  · unfold mkCopyS
    generalize h[b]? = x
    cases x with
    | none => rfl
    | some x => cases x with
      | cells c es rw => cases rw <;> rfl
      | _ => rfl

section
variable {P : Program} {h : AH} {t : TypeId} {s : S8} {x : UInt32}
theorem S8_0 : (flatV enc32 s.l)[0]? = some (.int .u32 ((s.a.toNat : Nat) : Int)) := rfl
theorem S8_1 : (flatV enc32 s.l)[1]? = some (.int .u32 ((s.b.toNat : Nat) : Int)) := rfl
theorem S8_2 : (flatV enc32 s.l)[2]? = some (.int .u32 ((s.c.toNat : Nat) : Int)) := rfl
theorem S8_3 : (flatV enc32 s.l)[3]? = some (.int .u32 ((s.d.toNat : Nat) : Int)) := rfl
theorem S8_4 : (flatV enc32 s.l)[4]? = some (.int .u32 ((s.e.toNat : Nat) : Int)) := rfl
theorem S8_5 : (flatV enc32 s.l)[5]? = some (.int .u32 ((s.f.toNat : Nat) : Int)) := rfl
theorem S8_6 : (flatV enc32 s.l)[6]? = some (.int .u32 ((s.g.toNat : Nat) : Int)) := rfl
theorem S8_7 : (flatV enc32 s.l)[7]? = some (.int .u32 ((s.h.toNat : Nat) : Int)) := rfl
theorem S8_sz : (flatV enc32 s.l).size = 8 := rfl
theorem S8_all : (flatV enc32 s.l).extract 0 8 = flatV enc32 s.l := by rw [← S8_sz (s := s), Array.extract_size]
theorem S8_set0 : (flatV enc32 s.l).setIfInBounds 0 (.int .u32 ((x.toNat : Nat) : Int)) = flatV enc32 (S8.mk x s.b s.c s.d s.e s.f s.g s.h).l := by rw [set_32]; rfl
theorem S8_set4 : (flatV enc32 s.l).setIfInBounds 4 (.int .u32 ((x.toNat : Nat) : Int)) = flatV enc32 (S8.mk s.a s.b s.c s.d x s.f s.g s.h).l := by rw [set_32]; rfl
theorem acopy_S8 {g : Bool} {by_ b c1 c2 es : Nat} (ha : slc P t = some (g, 1, by_)) (hb : h[b]? = some (.cells (flatV enc32 s.l) es true)) :
    acopy P h t (.slice (some ⟨b, 1, none⟩) 7 c1) (.slice (some ⟨b, 0, none⟩) 7 c2) = some (.int .i64 7, h.set b (.cells (flatV enc32 (S8.mk s.a s.a s.b s.c s.d s.e s.f s.g).l) es true)) := by
  have e0 : (flatV enc32 s.l).extract 0 (0 + 7 * 1) = flatV enc32 [s.a, s.b, s.c, s.d, s.e, s.f, s.g] := by
    simp [flat_32, S8.l]
  have hs : asource h 1 (.slice (some ⟨b, 0, none⟩) 7 c2) = some (7, flatV enc32 [s.a, s.b, s.c, s.d, s.e, s.f, s.g]) := by
    rw [asource_row rfl, hb, srcRow, e0, S8_sz]; rfl
  have e1 : (flatV enc32 [s.a, s.b, s.c, s.d, s.e, s.f, s.g]).extract 0 (7 * 1) = flatV enc32 [s.a, s.b, s.c, s.d, s.e, s.f, s.g] := by
    simp [flat_32, S8.l]
  have e2 : blit (flatV enc32 s.l) 1 (flatV enc32 [s.a, s.b, s.c, s.d, s.e, s.f, s.g]).toList = flatV enc32 (S8.mk s.a s.a s.b s.c s.d s.e s.f s.g).l := by
    simp [flat_32, S8.l, blit]
  rw [acopy_s ha hs, hb]
  have e3 : min 7 7 = 7 := rfl
  rw [e3, if_neg (by decide), mkCopyS, if_pos (by rw [S8_sz]; decide), e1, e2]
  rfl
end
/-- the first places added -/
def addI (s v : S8) (i : Nat) : List UInt32 := (List.range 8).map fun j => if j < i then s.l.getD j 0 + v.l.getD j 0 else s.l.getD j 0
theorem addI_0 (s v : S8) : addI s v 0 = s.l := by
  unfold addI; rw [show List.range 8 = [0, 1, 2, 3, 4, 5, 6, 7] from rfl]; simp [S8.l]
theorem addI_8 (s v : S8) : addI s v 8 = (s.add v).l := by
  unfold addI; rw [show List.range 8 = [0, 1, 2, 3, 4, 5, 6, 7] from rfl]; simp [S8.l, S8.add]
theorem length_addI (s v : S8) (i : Nat) : (addI s v i).length = 8 := by simp [addI]
theorem addI_get (s v : S8) {i : Nat} (hi : i < 8) : (flatV enc32 (addI s v i))[i]? = some (.int .u32 (((s.l.getD i 0).toNat : Nat) : Int)) := by
  rw [get_32 (by rw [length_addI]; exact hi)]
  simp [addI]
theorem l_get (v : S8) {i : Nat} (hi : i < 8) : (flatV enc32 v.l)[i]? = some (.int .u32 (((v.l.getD i 0).toNat : Nat) : Int)) := by
  rw [get_32 (show i < v.l.length from hi), List.getD_eq_getElem?_getD, List.getElem?_eq_getElem (show i < v.l.length from hi)]; rfl
theorem addI_set (s v : S8) {i : Nat} (hi : i < 8) : (flatV enc32 (addI s v i)).setIfInBounds i (.int .u32 (((s.l.getD i 0 + v.l.getD i 0).toNat : Nat) : Int)) = flatV enc32 (addI s v (i + 1)) := by
  rw [set_32]
  congr 1
  apply List.ext_getElem
  · simp [addI]
  · intro j h1 h2
    rw [List.getElem_set]
    simp only [addI, List.getElem_map, List.getElem_range]
    by_cases he : i = j
    · subst he; rw [if_pos rfl, if_pos (by omega)]
    · rw [if_neg he]
      by_cases h3 : j < i
      · rw [if_pos h3, if_pos (by omega)]
      · rw [if_neg h3, if_neg (by omega)]

section
variable {P : Program} {ops : Array Oper} {Q : Exit → Array Value → AH → Prop} {rest : List Oper} {a : Array Value} {h hh : AH} {dst : Option Tmp}
theorem astep_rep {x y : Option (Value × AH)} (e : x = y) (hn : astep P ops Q rest dst a hh (avalh y)) : astep P ops Q rest dst a hh (avalh x) := e ▸ hn
end
theorem full_l {α : Type} (l : List α) : (Sl.full l).l = l := rfl
theorem app_l {α : Type} (l : List α) : (Sl.app l).l = l := rfl
attribute [go_sem] full_l app_l
/-- sums, so far -/
def sumL (s v : S8) (i : Nat) : List UInt32 := (List.range i).map fun j => s.l.getD j 0 + v.l.getD j 0
theorem length_sumL (s v : S8) (i : Nat) : (sumL s v i).length = i := by simp [sumL]
theorem sumL_succ (s v : S8) (i : Nat) : sumL s v (i + 1) = sumL s v i ++ [s.l.getD i 0 + v.l.getD i 0] := by simp [sumL, List.range_succ]
theorem sumL_8 (s v : S8) : sumL s v 8 = (s.add v).l := by
  unfold sumL; rw [show List.range 8 = [0, 1, 2, 3, 4, 5, 6, 7] from rfl]; simp [S8.l, S8.add]
theorem l_getD {l : List UInt32} {i : Nat} (hi : i < l.length) : l[i] = l.getD i 0 := by
  rw [List.getD_eq_getElem?_getD, List.getElem?_eq_getElem hi]; rfl
/-- a call that writes a block of the caller's, and tells nothing -/
theorem apost_wrote {P : Program} {h0 t : AH} {fn : Func} {R : Value → AH → Prop} {b : Nat} {o : AObj} (hr : fn.results = #[]) (ho : ∀ L, ORen id L o o) (hR : R undef (h0.set b o)) (l : List Value) : apost P h0 fn R .normal l.toArray (h0.set b o ++ t) := by
  refine ⟨undef, undef, h0.set b o, aresults_none hr _ _, ?_, hR⟩
  have := Eases.tail (P := P) (h0 := h0) (hk := h0.set b o) (x := t) (l := [undef]) (l1 := [undef]) (by simp) (fun b' o' hb ha => ?_) ?_
  · exact this
  · by_cases he : b = b'
    · subst he
      have hlt : b < h0.length := by have := (List.getElem?_eq_some_iff.1 hb).1; simpa using this
      rw [List.getElem?_set_self hlt] at hb
      cases hb
      exact .inr (ho _)
    · rw [List.getElem?_set_ne he] at hb
      exact .inl ⟨(List.getElem?_eq_some_iff.1 hb).1, hb⟩
  · exact .keep VB_undef .nil
theorem set_front {h t : AH} {b : Nat} {o : AObj} (hb : b < h.length) : (h ++ t).set b o = h.set b o ++ t := by
  rw [List.set_append_left _ _ hb]
theorem at_front {h t : AH} {b : Nat} (hb : b < h.length) : (h ++ t)[b]? = h[b]? := List.getElem?_append_left hb
theorem at_setS {h t : AH} {b : Nat} {o : AObj} (hb : b < h.length) : (h.set b o ++ t)[b]? = some o := by
  rw [List.getElem?_append_left (by simpa using hb), List.getElem?_set_self hb]
theorem at_setN {h t : AH} {b k : Nat} {o : AObj} : (h.set b o ++ t)[h.length + k]? = t[k]? := by
  have := at_new (h.set b o) t k
  rwa [List.length_set] at this
theorem set_setS {h t : AH} {b : Nat} {o o1 : AObj} (hb : b < h.length) : (h.set b o ++ t).set b o1 = h.set b o1 ++ t := by
  rw [List.set_append_left _ _ (by simpa using hb), List.set_set]
theorem Keeps.easeS {P : Program} {h0 t : AH} {b : Nat} {o : AObj} {l l1 : List Value} (ho : ∀ L, ORen id L o o) (ht : ∀ L, ∀ o ∈ t, ORen id L o o) (hv : Keeps (h0.length + t.length) l l1) :
    Eases P h0 l.toArray (h0.set b o ++ t) l1.toArray (h0.set b o ++ t) := by
  refine Keeps.ease (by simp) (fun b' o' hb' _ => ?_) (by simpa using hv)
  by_cases hl : b' < h0.length
  · rw [List.getElem?_append_left (by simpa using hl)] at hb'
    by_cases he : b = b'
    · subst he
      rw [List.getElem?_set_self hl] at hb'
      cases hb'
      exact .inr (ho _)
    · rw [List.getElem?_set_ne he] at hb'
      exact .inl ⟨hl, hb'⟩
  · rw [List.getElem?_append_right (by simpa using Nat.le_of_not_lt hl)] at hb'
    exact .inr (ht _ _ (List.mem_of_getElem? hb'))
/-- of the frame these stay, as values; all that is new is dropped -/
inductive KeepsF (h h1 : AH) : List Value → List Value → Prop
  | nil : KeepsF h h1 [] []
  | junk (v : Value) {l l1 : List Value} (r : KeepsF h h1 l l1) : KeepsF h h1 (v :: l) (Am.junk :: l1)
  | keep {v v1 : Value} {l l1 : List Value} (hr : Rf h h1 v v1) (ht : Tree v1) (r : KeepsF h h1 l l1) : KeepsF h h1 (v :: l) (v1 :: l1)
theorem KeepsF.spec {h h1 : AH} {l l1 : List Value} (k : KeepsF h h1 l l1) : l1.length = l.length ∧ (∀ i : Nat, Rf h h1 (l.getD i Am.junk) (l1.getD i Am.junk)) ∧ ∀ L, Keeps L l1 l1 := by
  induction k with
  | nil => exact ⟨rfl, fun i => by simp; exact .same _, fun _ => .nil⟩
  | junk v r ih => exact ⟨by simp [ih.1], fun i => by cases i with
      | zero => exact .junk _
      | succ i => simpa using ih.2.1 i, fun L => .junk _ (ih.2.2 L)⟩
  | keep hr ht r ih => exact ⟨by simp [ih.1], fun i => by cases i with
      | zero => simpa using hr
      | succ i => simpa using ih.2.1 i, fun L => .keep ht.ren (ih.2.2 L)⟩
theorem KeepsF.ease {P : Program} {h0 t : AH} {l l1 : List Value} (k : KeepsF (h0 ++ t) (dieNew h0 (h0 ++ t)) l l1) : Eases P h0 l.toArray (h0 ++ t) l1.toArray h0 := by
  obtain ⟨h1, h2, h3⟩ := k.spec
  refine Eases.trans (Eases.freeze (a1 := l1.toArray) (h1 := dieNew h0 (h0 ++ t)) ⟨by simp [dieNew], fun b o1 hb ha => ?_⟩ (by simpa using h1) fun i => ?_) (Keeps.ease1 (h3 _))
  · obtain ⟨h4, h5⟩ := dieNew_get hb ha
    exact .inl (by rw [at_front h4]; exact h5)
  · have := h2 i
    simpa [Array.getD_eq_getD_getElem?, List.getD] using this
theorem load_outO {l : List UInt32} {i m : Nat} (hi : i < l.length) : mkLoad i (some (false, 1)) (some (outO enc32 m l)) = some (.int .u32 (((l.getD i 0).toNat : Nat) : Int)) := by
  rw [outO_ne (by intro h; subst h; simp at hi)]
  show (flatV enc32 l)[i]? = _
  rw [get_32 hi, List.getD_eq_getElem?_getD, List.getElem?_eq_getElem hi]; rfl
attribute [go_sem high] load_outO
theorem loadF_32 {l : List UInt32} {i : Nat} (hi : i < l.length) : mkLoadF (flatV enc32 l) i (some (false, 1)) = some (.int .u32 (((l.getD i 0).toNat : Nat) : Int)) := by
  rw [load_enc32 hi, List.getD_eq_getElem?_getD, List.getElem?_eq_getElem hi]; rfl
theorem loadF_u8 {l : List UInt8} {i : Nat} (hi : i < l.length) : mkLoadF (flatV encU8 l) i (some (false, 1)) = some (.int .u8 (((l.getD i 0).toNat : Nat) : Int)) := by
  rw [load_encU8 hi, List.getD_eq_getElem?_getD, List.getElem?_eq_getElem hi]; rfl

theorem S8e0 {s : S8} (h : 0 < s.l.length) : s.l[0]'h = s.a := rfl
theorem S8e1 {s : S8} (h : 1 < s.l.length) : s.l[1]'h = s.b := rfl
theorem S8e2 {s : S8} (h : 2 < s.l.length) : s.l[2]'h = s.c := rfl
theorem S8e3 {s : S8} (h : 3 < s.l.length) : s.l[3]'h = s.d := rfl
theorem S8e4 {s : S8} (h : 4 < s.l.length) : s.l[4]'h = s.e := rfl
theorem S8e5 {s : S8} (h : 5 < s.l.length) : s.l[5]'h = s.f := rfl
theorem S8e6 {s : S8} (h : 6 < s.l.length) : s.l[6]'h = s.g := rfl
theorem S8e7 {s : S8} (h : 7 < s.l.length) : s.l[7]'h = s.h := rfl
theorem S8len (s : S8) : s.l.length = 8 := rfl
theorem asource_slU {H : AH} {s : Sl UInt8} : asource H 1 (slV encU8 s) = some (s.l.length, flatV encU8 s.l) := asource_slV length_encU8
theorem asource_sl32 {H : AH} {s : Sl UInt32} : asource H 1 (slV enc32 s) = some (s.l.length, flatV enc32 s.l) := asource_slV length_enc32
attribute [go_sem] asource_slU asource_sl32
/-! four bytes -/
theorem shl_or (x : UInt32) (hm : x.toNat < 16777216) (b : UInt8) : (shlN x 8 ||| b32 b).toNat = x.toNat * 256 + b.toNat := by
  have hb := b.toNat_lt
  rw [UInt32.toNat_or, shlN, b32, UInt32.toNat_ofNat', UInt32.toNat_ofNat', Nat.mod_eq_of_lt (by omega), Nat.mod_eq_of_lt (by omega), Nat.or_comm]
  have := or_add (x := b.toNat) (b := x.toNat) (k := 8) (by omega)
  omega
theorem wd_toNat (l : List UInt8) (i : Nat) : (wd l i).toNat = (((l.getD (4 * i) 0).toNat * 256 + (l.getD (4 * i + 1) 0).toNat) * 256 + (l.getD (4 * i + 2) 0).toNat) * 256 + (l.getD (4 * i + 3) 0).toNat := by
  have h0 := (l.getD (4 * i) 0).toNat_lt; have h1 := (l.getD (4 * i + 1) 0).toNat_lt; have h2 := (l.getD (4 * i + 2) 0).toNat_lt; have h3 := (l.getD (4 * i + 3) 0).toNat_lt
  have e0 : (partW l i 0).toNat = 0 := rfl
  have e1 : (partW l i 1).toNat = (l.getD (4 * i) 0).toNat := by
    rw [partW, shl_or _ (by rw [e0]; decide), e0]; simp
  have e2 : (partW l i 2).toNat = (l.getD (4 * i) 0).toNat * 256 + (l.getD (4 * i + 1) 0).toNat := by
    rw [partW, shl_or _ (by omega), e1]
  have e3 : (partW l i 3).toNat = ((l.getD (4 * i) 0).toNat * 256 + (l.getD (4 * i + 1) 0).toNat) * 256 + (l.getD (4 * i + 2) 0).toNat := by
    rw [partW, shl_or _ (by omega), e2]
  rw [wd, partW, shl_or _ (by omega), e3]
theorem wd_or (b0 b1 b2 b3 : UInt8) : (shlN (b32 b0) 24 ||| shlN (b32 b1) 16 ||| shlN (b32 b2) 8 ||| b32 b3).toNat = ((b0.toNat * 256 + b1.toNat) * 256 + b2.toNat) * 256 + b3.toNat := by
  have h0 := b0.toNat_lt; have h1 := b1.toNat_lt; have h2 := b2.toNat_lt; have h3 := b3.toNat_lt
  have e : ∀ (b : UInt8) (k : Nat), k ≤ 24 → (shlN (b32 b) k).toNat = b.toNat * 2 ^ k := by
    intro b k hk
    have hb := b.toNat_lt
    have h4 : 2 ^ k ≤ 16777216 := by have := Nat.pow_le_pow_right (n := 2) (i := k) (j := 24) (by decide) hk; simpa using this
    have h5 : b.toNat * 2 ^ k ≤ 255 * 16777216 := Nat.mul_le_mul (by omega) h4
    have h6 : b.toNat % 4294967296 = b.toNat := Nat.mod_eq_of_lt (by omega)
    have h7 : b.toNat * 2 ^ k % 4294967296 = b.toNat * 2 ^ k := Nat.mod_eq_of_lt (by omega)
    rw [shlN, b32, UInt32.toNat_ofNat', UInt32.toNat_ofNat']
    show b.toNat % 4294967296 * 2 ^ k % 4294967296 = _
    rw [h6, h7]
  have e3 : (b32 b3).toNat = b3.toNat := by rw [b32, UInt32.toNat_ofNat', Nat.mod_eq_of_lt (by omega)]
  have s1 := or_add (x := b1.toNat * 2 ^ 16) (b := b0.toNat) (k := 24) (by omega)
  have s2 := or_add (x := b2.toNat * 2 ^ 8) (b := b0.toNat * 256 + b1.toNat) (k := 16) (by omega)
  have s3 := or_add (x := b3.toNat) (b := (b0.toNat * 256 + b1.toNat) * 256 + b2.toNat) (k := 8) (by omega)
  rw [UInt32.toNat_or, UInt32.toNat_or, UInt32.toNat_or, e _ 24 (by omega), e _ 16 (by omega), e _ 8 (by omega), e3]
  rw [Nat.or_comm] at s1 s2 s3
  simp only [Nat.reducePow] at s1 s2 s3 ⊢
  have t1 : ∀ x y : Nat, y * 65536 + x * 16777216 = (x * 256 + y) * 65536 := by intro x y; omega
  have t2 : ∀ x y : Nat, y * 256 + x * 65536 = (x * 256 + y) * 256 := by intro x y; omega
  rw [s1, t1, s2, t2, s3, Nat.add_comm]
theorem wd_eq (l : List UInt8) (i : Nat) : shlN (b32 (l.getD (4 * i) 0)) 24 ||| shlN (b32 (l.getD (4 * i + 1) 0)) 16 ||| shlN (b32 (l.getD (4 * i + 2) 0)) 8 ||| b32 (l.getD (4 * i + 3) 0) = wd l i := by
  apply UInt32.toNat_inj.1
  rw [wd_or, wd_toNat]
end Go.Am
set_option linter.unusedVariables false
set_option linter.unusedSimpArgs false
/- The last blocks; bytes written in place. -/
namespace Go.Am
open Go

theorem rep_u8 (n : Nat) : (Array.replicate n (Value.int .u8 0)) = flatV encU8 (List.replicate n 0) := by
  rw [flat_u8, List.map_replicate, ← List.toArray_replicate]; rfl
theorem blit_u8 : ∀ (bs pre zs post : List UInt8) {o : Nat}, pre.length = o → zs.length = bs.length →
    blit (flatV encU8 (pre ++ zs ++ post)) o (bs.map fun b => Value.int .u8 b.toNat) = flatV encU8 (pre ++ bs ++ post)
  | [], pre, zs, post, o, ho, hz => by
    have : zs = [] := List.length_eq_zero_iff.1 hz
    subst this; rfl
  | b :: bs, pre, [], post, o, ho, hz => by simp at hz
  | b :: bs, pre, z :: zs, post, o, ho, hz => by
    subst ho
    simp only [List.map_cons, blit]
    rw [set_u8]
    have e1 : (pre ++ z :: zs ++ post).set pre.length b = (pre ++ [b]) ++ zs ++ post := by simp
    rw [e1, blit_u8 bs (pre ++ [b]) zs post (by simp) (by simpa using hz)]
    simp

/-- a copy to the front of zeros -/
theorem acopy_front {P : Program} {h : AH} {t : TypeId} {g : Bool} {by_ b cap es n : Nat} {s : Sl UInt8} (ha : slc P t = some (g, 1, by_)) (hb : h[b]? = some (.cells (flatV encU8 (List.replicate n 0)) es true)) (hn : s.l.length ≤ n) :
    acopy P h t (.slice (some ⟨b, 0, none⟩) n cap) (slV encU8 s) = some (.int .i64 (s.l.length : Nat), h.set b (.cells (flatV encU8 (s.l ++ List.replicate (n - s.l.length) 0)) es true)) := by
  rw [acopy_s ha asource_slU, Nat.min_eq_left hn]
  by_cases h0 : s.l.length * 1 = 0
  · rw [if_pos h0]
    have : s.l = [] := List.length_eq_zero_iff.1 (by omega)
    rw [this]
    simp only [List.nil_append, List.length_nil, Nat.sub_zero]
    rw [set_same hb]
  · rw [if_neg h0, hb]
    have e1 : (flatV encU8 s.l).extract 0 (s.l.length * 1) = flatV encU8 s.l := by
      rw [Nat.mul_one, ← size_u8, Array.extract_size]
    have e2 := blit_u8 s.l [] (List.replicate s.l.length 0) (List.replicate (n - s.l.length) 0) (o := 0) rfl (by simp)
    simp only [List.nil_append] at e2
    have e3 : List.replicate s.l.length (0 : UInt8) ++ List.replicate (n - s.l.length) 0 = List.replicate n 0 := by
      rw [List.replicate_append_replicate]; congr 1; omega
    rw [e3] at e2
    unfold mkCopyS
    simp only [e1]
    rw [if_pos (by rw [size_u8]; simp; omega)]
    have e4 : (flatV encU8 s.l).toList = s.l.map fun b => Value.int .u8 b.toNat := by rw [flat_u8]
    rw [e4, e2]

/-- the bytes of a length, one by one, from the right -/
def lastL (base : List UInt8) (N fin : Nat) : Nat → List UInt8
  | 0 => base
  | i + 1 => (lastL base N fin i).set (fin - 1 - i) (UInt8.ofNat (N / 2 ^ (8 * i)))
theorem length_lastL (base : List UInt8) (N fin : Nat) : ∀ i, (lastL base N fin i).length = base.length
  | 0 => rfl
  | i + 1 => by simp [lastL, length_lastL base N fin i]
theorem lastL_get (base : List UInt8) (N fin : Nat) : ∀ i, i ≤ fin → ∀ j, (lastL base N fin i)[j]? = if fin - i ≤ j ∧ j < fin ∧ j < base.length then some (UInt8.ofNat (N / 2 ^ (8 * (fin - 1 - j)))) else base[j]?
  | 0, _, j => by rw [if_neg (by omega)]; rfl
  | i + 1, hi, j => by
    rw [lastL, List.getElem?_set, length_lastL, lastL_get base N fin i (by omega) j]
    by_cases he : fin - 1 - i = j
    · rw [if_pos he]
      by_cases hj : j < base.length
      · rw [if_pos (by omega), if_pos (by omega)]
        congr 4; omega
      · rw [if_neg (by omega), if_neg (by omega)]
        exact (List.getElem?_eq_none (by omega)).symm
    · rw [if_neg he]
      by_cases h3 : fin - i ≤ j ∧ j < fin ∧ j < base.length
      · rw [if_pos h3, if_pos (by omega)]
      · rw [if_neg h3, if_neg (by omega)]
def finN (r : Nat) : Nat := if r < 56 then 64 else 128
theorem lastL_8 (rest : List UInt8) (N : Nat) (hr : rest.length < 64) :
    lastL (rest ++ (128 : UInt8) :: List.replicate (127 - rest.length) 0) N (finN rest.length) 8 = rest ++ (128 : UInt8) :: (List.replicate (padN rest.length) 0 ++ be8 N) ++ List.replicate (128 - finN rest.length) 0 := by
  have hp : rest.length + 1 + padN rest.length + 8 = finN rest.length := by
    unfold padN finN
    have : rest.length % 64 = rest.length := Nat.mod_eq_of_lt hr
    rw [this]; split <;> omega
  have hf : finN rest.length ≤ 128 := by unfold finN; split <;> omega
  apply List.ext_getElem?
  intro j
  rw [lastL_get _ _ _ 8 (by omega)]
  have hb : (rest ++ (128 : UInt8) :: List.replicate (127 - rest.length) 0).length = 128 := by simp; omega
  rw [hb]
  generalize finN rest.length = fin at *
  generalize padN rest.length = pad at *
  by_cases h1 : j < rest.length
  · rw [if_neg (by omega), List.append_assoc, List.getElem?_append_left h1, List.getElem?_append_left h1]
  · rw [List.append_assoc, List.getElem?_append_right (by omega), List.getElem?_append_right (by omega)]
    by_cases h2 : j - rest.length = 0
    · rw [if_neg (by omega), h2]; rfl
    · obtain ⟨k, hk⟩ : ∃ k, j - rest.length = k + 1 := ⟨j - rest.length - 1, by omega⟩
      rw [hk]
      simp only [List.cons_append, List.getElem?_cons_succ, List.append_assoc]
      by_cases h3 : k < pad
      · rw [if_neg (by omega), List.getElem?_append_left (by simpa using h3), List.getElem?_replicate, List.getElem?_replicate, if_pos (by omega), if_pos h3]
      · rw [List.getElem?_append_right (by simp; omega), List.length_replicate]
        by_cases h4 : k - pad < 8
        · rw [if_pos (by omega), List.getElem?_append_left (by rw [length_be8]; exact h4)]
          simp only [be8, List.getElem?_map, List.getElem?_range h4, Option.map_some]
          congr 4; omega
        · rw [if_neg (by omega), List.getElem?_append_right (by rw [length_be8]; omega), length_be8, List.getElem?_replicate, List.getElem?_replicate]
          by_cases h5 : k < 127 - rest.length
          · rw [if_pos h5, if_pos (by omega)]
          · rw [if_neg h5, if_neg (by omega)]

theorem hash_last (ks : List UInt32) (b : List UInt8) :
    foldB ks (finN (b.length % 64) / 64) (foldB ks (b.length / 64) startS b) (lastL (b.drop (64 * (b.length / 64)) ++ (128 : UInt8) :: List.replicate (127 - b.length % 64) 0) (8 * b.length) (finN (b.length % 64)) 8) = hashS ks b := by
  have hr : (b.drop (64 * (b.length / 64))).length = b.length % 64 := by simp; omega
  have hl := lastL_8 (b.drop (64 * (b.length / 64))) (8 * b.length) (by omega)
  rw [hr] at hl
  rw [hl]
  have hp : padN (b.length % 64) = padN b.length := by unfold padN; rw [Nat.mod_mod]
  unfold hashS padded
  have e1 : (b.length / 64 + if b.length % 64 < 56 then 1 else 2) = b.length / 64 + finN (b.length % 64) / 64 := by unfold finN; split <;> omega
  rw [e1]
  have e2 : b ++ (128 : UInt8) :: (List.replicate (padN b.length) 0 ++ be8 (8 * b.length)) = b.take (64 * (b.length / 64)) ++ (b.drop (64 * (b.length / 64)) ++ (128 : UInt8) :: (List.replicate (padN b.length) 0 ++ be8 (8 * b.length))) := by
    rw [← List.append_assoc, List.take_append_drop]
  rw [e2, foldB_append ks _ _ _ _ _ (by simp; omega), hp]
  have e3 : foldB ks (b.length / 64) startS b = foldB ks (b.length / 64) startS (b.take (64 * (b.length / 64))) := by
    have := foldB_take ks (b.length / 64) startS (b.take (64 * (b.length / 64))) (b.drop (64 * (b.length / 64))) (by simp; omega)
    rwa [List.take_append_drop] at this
  rw [e3]
  refine foldB_take ks _ _ _ _ ?_
  simp only [List.length_append, List.length_cons, List.length_replicate, length_be8, hr]
  unfold padN finN
  split <;> omega
/-- of the frame these stay, some as values -/
inductive FzL (h h1 : AH) : List Value → List Value → Prop
  | nil : FzL h h1 [] []
  | junk (v : Value) {l l1 : List Value} (r : FzL h h1 l l1) : FzL h h1 (v :: l) (Am.junk :: l1)
  | keep {v v1 : Value} {l l1 : List Value} (hr : Rf h h1 v v1) (r : FzL h h1 l l1) : FzL h h1 (v :: l) (v1 :: l1)
theorem FzL.spec {h h1 : AH} {l l1 : List Value} (k : FzL h h1 l l1) : l1.length = l.length ∧ (∀ i : Nat, Rf h h1 (l.getD i Am.junk) (l1.getD i Am.junk)) := by
  induction k with
  | nil => exact ⟨rfl, fun i => by simp; exact .same _⟩
  | junk v r ih => exact ⟨by simp [ih.1], fun i => by cases i with
      | zero => exact .junk _
      | succ i => simpa using ih.2 i⟩
  | keep hr r ih => exact ⟨by simp [ih.1], fun i => by cases i with
      | zero => simpa using hr
      | succ i => simpa using ih.2 i⟩
theorem FzL.ease {P : Program} {h0 h : AH} {b : Nat} {l l1 : List Value} (k : FzL h (h.set b .dead) l l1) : Eases P h0 l.toArray h l1.toArray (h.set b .dead) := by
  obtain ⟨h1, h2⟩ := k.spec
  refine Eases.freeze HFz.set (by simpa using h1) fun i => ?_
  have := h2 i
  simpa [Array.getD_eq_getD_getElem?, List.getD] using this
theorem Rf.pointer {h h1 : AH} {b o es : Nat} {c : Array Value} {rw : Bool} (hb : h[b]? = some (.cells c es rw)) (hd : h1[b]? = some .dead) : Rf h h1 (.pointer (some ⟨b, o, none⟩)) (fp c o) :=
  .ptr b o es c c rw hb hd rfl fun i _ => .same _
theorem Tree.fpU8 (l : List UInt8) (n : Nat) : Tree (Am.fp (flatV encU8 l) n) := by
  refine .fp _ _ fun i => ?_
  rw [flat_u8]
  by_cases hi : i < l.length
  · have : ((l.map fun b => Value.int .u8 b.toNat).toArray).getD i Am.junk = .int .u8 l[i].toNat := by simp [Array.getD, hi]
    rw [this]; exact .plain _ rfl
  · rw [getD_ge i (by simpa using hi)]; exact .junk
theorem tree_agg32 (l : List UInt32) : Tree (.agg (flatV enc32 l)) := by
  refine .agg _ fun i => ?_
  rw [flat_32]
  by_cases hi : i < l.length
  · have : ((l.map fun b => Value.int .u32 b.toNat).toArray).getD i Am.junk = .int .u32 l[i].toNat := by simp [Array.getD, hi]
    rw [this]; exact .plain _ rfl
  · rw [getD_ge i (by simpa using hi)]; exact .junk
theorem fz_piece (l : List UInt8) {a n : Nat} (h : a + n ≤ l.length) : fz ((flatV encU8 l).extract a (a + n)) n = slV encU8 (Sl.full ((l.drop a).take n)) := by
  have e : (flatV encU8 l).extract a (a + n) = flatV encU8 ((l.drop a).take n) := by
    rw [flat_u8, flat_u8, List.extract_toArray, List.map_take, List.map_drop]
    congr 1
    rw [List.extract_eq_take_drop]
    congr 1; omega
  have e2 : ((l.drop a).take n).length = n := by simp; omega
  show _ = fz _ _
  rw [e, full_l, e2]
theorem mkSliceF_u8 {L : List UInt8} {a n N : Nat} (hL : L.length = N) (h : a + n ≤ N) (h0 : a < N) : mkSliceF (flatV encU8 L) 0 (some (.int .i64 ((a : Nat) : Int))) (some (.int .i64 ((a + n : Nat) : Int))) (some (N, false, 1)) = some (slV encU8 (Sl.full ((L.drop a).take n))) := by
  have h1 : abound (some (.int .i64 ((a + n : Nat) : Int))) N N = some (a + n) := by
    show (if _ then _ else _) = _; rw [if_pos (by omega)]; rfl
  have h2 : abound (some (.int .i64 ((a : Nat) : Int))) 0 (a + n) = some a := by
    show (if _ then _ else _) = _; rw [if_pos (by omega)]; rfl
  have hb : abounds N N (some (.int .i64 ((a : Nat) : Int))) (some (.int .i64 ((a + n : Nat) : Int))) = some (a, a + n) := by
    unfold abounds; rw [h1]; show (match abound (some (.int .i64 ((a : Nat) : Int))) 0 (a + n) with | some l => some (l, a + n) | none => none) = _; rw [h2]
  unfold mkSliceF
  simp only [hb]
  rw [if_neg (by rw [size_u8, hL]; omega)]
  simp only [Nat.zero_add, Nat.mul_one]
  have e : a + n - a = n := by omega
  rw [e, fz_piece L (by omega)]
/-- bytes out, so far -/
def outB (s : S8) (i : Nat) : List UInt8 := (s.l.take i).flatMap four
theorem length_outB (s : S8) {i : Nat} (hi : i ≤ 8) : (outB s i).length = 4 * i := by
  have : ∀ l : List UInt32, (l.flatMap four).length = 4 * l.length := by
    intro l
    induction l with
    | nil => rfl
    | cons x l ih => rw [List.flatMap_cons, List.length_append, ih, List.length_cons]; show 4 + _ = _; omega
  rw [outB, this, List.length_take]
  have : s.l.length = 8 := rfl
  omega
theorem outB_succ (s : S8) {i : Nat} (hi : i < 8) : outB s (i + 1) = outB s i ++ four (s.l.getD i 0) := by
  have h : i < s.l.length := hi
  rw [outB, List.take_add_one, List.getElem?_eq_getElem h, List.flatMap_append, l_getD h]
  simp [outB]
theorem outB_8 (s : S8) : outB s 8 = bytesS s := rfl
theorem blit_four (s : S8) {i : Nat} (hi : i < 8) : blit (flatV encU8 (outB s i ++ List.replicate (32 - 4 * i) 0)) (4 * i) [.int .u8 (((lo8 (shrN (s.l.getD i 0) 24)).toNat : Nat) : Int), .int .u8 (((lo8 (shrN (s.l.getD i 0) 16)).toNat : Nat) : Int), .int .u8 (((lo8 (shrN (s.l.getD i 0) 8)).toNat : Nat) : Int), .int .u8 (((lo8 (s.l.getD i 0)).toNat : Nat) : Int)] = flatV encU8 (outB s (i + 1) ++ List.replicate (32 - 4 * (i + 1)) 0) := by
  have := blit_u8 (four (s.l.getD i 0)) (outB s i) (List.replicate 4 0) (List.replicate (32 - 4 * (i + 1)) 0) (o := 4 * i) (length_outB s (by omega)) rfl
  rw [List.append_assoc (outB s i) (List.replicate 4 0), List.replicate_append_replicate, show 4 + (32 - 4 * (i + 1)) = 32 - 4 * i by omega, ← outB_succ s hi] at this
  exact this
theorem outV_two {α : Type} {n : Nat} {l : List α} : VRen id (n + 2) (outV (n + 1) l) (outV (n + 1) l) := by
  cases l with
  | nil => exact .plain _ rfl
  | cons x l => exact .slice _ _ _ _ _ (by omega) rfl
theorem outV_pickL {α : Type} {n L b k m : Nat} {js : List Nat} {l : List α} (hne : l ≠ []) (hl : l.length = m) (hk : n + k < L) (hj : js.getD k k = b) : VRen (Am.pick n js) L (outV (n + k) l) (.slice (some ⟨n + b, 0, none⟩) m m) := by
  rw [outV_ne hne, hl]
  refine .slice _ _ _ _ _ hk ?_
  rw [pick_new, hj]
theorem out_four (s : S8) {i : Nat} (hi : i < 8) : outO encU8 1 (outB s (i + 1)) = .cells (flatV encU8 (outB s i) ++ #[.int .u8 (((lo8 (shrN (s.l.getD i 0) 24)).toNat : Nat) : Int), .int .u8 (((lo8 (shrN (s.l.getD i 0) 16)).toNat : Nat) : Int), .int .u8 (((lo8 (shrN (s.l.getD i 0) 8)).toNat : Nat) : Int), .int .u8 (((lo8 (s.l.getD i 0)).toNat : Nat) : Int)]) 1 true := by
  have hl := length_outB s (i := i + 1) (by omega)
  rw [outO_ne (by intro h; rw [h] at hl; simp at hl), outB_succ s hi, flatV_append]
  rfl
theorem aconv_sl {P : Program} {h : AH} {t e : TypeId} {b o len cap es : Nat} {c : Array Value} (hs : P.underlying t = some (.slice e)) (he : P.underlying e = some (.int .u8)) (hb : h[b]? = some (.cells c es true)) (hl : len ≠ 0) :
    aconvert P h t t (.slice (some ⟨b, o, none⟩) len cap) = some (.slice (some ⟨b, o, none⟩) len cap, h) := by
  simp only [aconvert, hs, he, hb, hl, ne_eq, not_false_eq_true, and_self, if_true]
theorem ACalls.of_aw {P : Program} {F : FuncId} {fn : Func} {c : Code} (hf : P.funcs[F]? = some fn) (hb : fn.body = some c) {n : Nat} (hn : fn.ntmps = n) {args : List Value} {h : AH} {R : Value → AH → Prop} (inh : ∃ v h', R v h')
    (ha : AWP P h c (apost P h fn R) (args ++ List.replicate (n - args.length) undef).toArray h) : ACalls P F args.toArray h R := by
  subst hn
  refine ACalls.of_awp hf hb inh ?_
  have e : (args.toArray ++ Array.replicate (fn.ntmps - args.toArray.size) undef) = (args ++ List.replicate (fn.ntmps - args.length) undef).toArray := by
    simp
  rw [e]; exact ha
theorem pick2 {P : Program} {h0 t : AH} {l l1 : List Value} {o1 o2 : AObj} (k : Nat) (hk : 1 ≤ k) (h1 : t[0]? = some o1 ∧ ∀ σ L, ORen σ L o1 o1)
    (h2 : ∃ o, t[k]? = some o ∧ ORen (Am.pick h0.length [0, k]) (h0.length + 2) o2 o) (hv : KeepsS (Am.pick h0.length [0, k]) (h0.length + 2) l l1) : Eases P h0 l.toArray (h0 ++ t) l1.toArray (h0 ++ [o1, o2]) := by
  refine Eases.pickN [0, k] rfl (by simp; omega) (fun i o hi => ?_) hv
  match i, hi with
  | 0, hi => simp at hi; subst hi; exact ⟨_, h1.1, h1.2 _ _⟩
  | 1, hi => simp at hi; subst hi; exact h2
theorem be8_take (N : Nat) {i : Nat} (hi : i < 8) : (be8 N).take (i + 1) = (be8 N).take i ++ [UInt8.ofNat (N / 2 ^ (8 * (7 - i)))] := by
  rw [List.take_add_one]
  congr 1
  simp [be8, hi]
theorem pad_iff {n i : Nat} (hi : i ≤ padN n) : (n + 1 + i) % 64 = 56 ↔ i = padN n := by
  unfold padN at *
  split at hi <;> split <;> omega
theorem full_app {s : S8} : Sl.full s.l = Sl.app s.l := rfl
/-- a slice that grows, with one at its side -/
theorem mkApp_out1 {h t : AH} {α : Type} {enc : α → List Value} {o : AObj} {l : List α} {g : Bool} {m n by_ : Nat} {new : Array Value} (hm : ∀ x, (enc x).length = m) (hn : 0 < n) (hbd : (2 * (l.length + n) + 192) * by_ ≤ 2 ^ 48 ∧ l.length + n < 2 ^ 62) :
    mkApp (h ++ o :: outO enc m l :: t) (outV (h.length + 1) l) (some (g, m, by_)) (some (n, new)) = some (.slice (some ⟨h.length + (t.length + 1 + 1), 0, none⟩) (l.length + n) (l.length + n), h ++ o :: .dead :: (t ++ [.cells (flatV enc l ++ new) m true])) := by
  rw [mkApp_outK (t := o :: outO enc m l :: t) (k := 1) (enc := enc) hm hn hbd rfl]
  simp
end Go.Am
set_option linter.unusedVariables false
set_option linter.unusedSimpArgs false
/- A law whose package variable is known. -/
namespace Go.Am
open Go

def startG (P : Program) (g : Nat) (c : Array Value) : AH := (start P).set g (.cells c 0 false)
def atG (g n : Nat) : Emb := ⟨fun b => if b = g then ⟨g, 0, n, n, 0⟩ else ⟨b, 0, 0, 0, 0⟩, fun _ => none⟩
theorem startG_get {P : Program} {g b : Nat} {c : Array Value} {o : AObj} (h : (startG P g c)[b]? = some o) : o = .dead ∨ (b = g ∧ o = .cells c 0 false) := by
  unfold startG at h
  by_cases he : g = b
  · subst he
    by_cases hl : g < (start P).length
    · rw [List.getElem?_set_self hl] at h; exact .inr ⟨rfl, (Option.some.inj h).symm⟩
    · rw [List.getElem?_eq_none (by simpa using hl)] at h; cases h
  · rw [List.getElem?_set_ne he] at h; exact .inl (start_get h)
theorem startG_norw (P : Program) (g : Nat) (c : Array Value) : NoRW (startG P g c) := fun b o hb => by
  rcases startG_get hb with rfl | ⟨_, rfl⟩ <;> rfl
theorem startG_sim {P : Program} (hl : laidOutB P = true) {w : World} {g : Nat} {c : Array Value} (hp : c.all plain1 = true) (hw : ∃ elem fr, w.heap[g]? = some (.cells c elem fr)) : Sim P (atG g c.size) (startG P g c) w := by
  obtain ⟨elem, fr, hw⟩ := hw
  refine ⟨fun b o hb ha => ?_, fun b b' o o' hb _ ha _ hrw _ => ?_, fun k _ => ?_, by simp [startG, start], fun r ds e => (by cases e), hl, fun b o hb => ?_⟩
  · rcases startG_get hb with rfl | ⟨rfl, rfl⟩
    · cases ha
    · refine ⟨.cells c elem fr, by simp [atG, hw], c, elem, fr, rfl, by simp [atG], by simp [atG], by simp [atG], fun h => (by cases h), by simp [atG], fun i hi => ?_⟩
      have := getD_all hp i hi
      simp only [atG, if_true, Nat.zero_add]
      exact ⟨plain1_refl this, plain1_one this⟩
  · have := startG_norw P g c b o hb
    rw [this] at hrw; cases hrw
  · simp only [atG]; split <;> simp_all
  · rcases startG_get hb with rfl | ⟨rfl, rfl⟩ <;> trivial

section
variable {P : Program} {w : World} {H : Type} {enc : TypeId × Value → H} {spare : Nat → Bool} {held : Bool}
theorem law_callsG (hl0 : laidOutB P = true) (hspare : ∀ b, spare b = true) {F : FuncId} {ts : List TypeId} {r : Reach} {b0 : Nat} {args : Array Value} {ds : List (DataW H)} {ps : List MemPlace} (ho : ts.all (okArg P) = true)
    {g : Nat} {c : Array Value} (hp : c.all plain1 = true) (hw : ∃ elem fr, w.heap[g]? = some (.cells c elem fr)) (hg : g < P.globals.size)
    (hlaw : ∀ (h : AH) (vs : List Value), P.globals.size ≤ h.length → NoRW h → h[g]? = some (.cells c 0 false) → TArgs P ts vs → ACalls P F vs.toArray h (fun v _ => v = .bool true))
    (hv : ∀ (j : Nat) t v, ts[j]? = some t → args.toList[j]? = some v → Value.okWide P w r b0 t v) (hT : DataW.TrodAll enc P w 0 spare held ts args.toList ds ps) :
    Calls P F args w fun e w' => e = .returned (.bool true) ∧ RowKit.Below w.heap.size w w' := by
  obtain ⟨f1, vs, e1, hl, hr, ha⟩ := args_abs hspare ts args.toList ds ps (List.all_eq_true.1 ho) hv hT (atG g c.size) (startG P g c) (startG_sim hl0 hp hw) (startG_norw P g c)
  have hno := startG_norw P g c
  refine ((hlaw (startG P g c) vs (by simp [startG, start]) hno (by unfold startG; rw [List.getElem?_set_self (by simpa [start] using hg)]) ha).run f1 w args e1.sim ⟨by simpa using hl, fun i => ?_⟩).mono fun e w' ⟨f', v, v', h', h1, h2, h3, h4⟩ => ?_
  · have := hr i
    have e1 : args.toList.getD i junk = args.getD i junk := by simp [Array.getD_eq_getD_getElem?, List.getD]
    have e2 : vs.toArray.getD i junk = vs.getD i junk := by simp [Array.getD_eq_getD_getElem?, List.getD]
    rw [e1] at this; rw [e2]; exact this
  · subst h2
    cases h4
    exact ⟨h1, h3.keep.os, h3.keep.tape, h3.keep.output, h3.keep.size, fun k hk => h3.keep.block k hk fun b o hb ho => by rw [hno b o hb] at ho; cases ho⟩
end

/-- a row of numbers, as it reads, is what lies there -/
theorem trod_nums {P : Program} {w : World} {H : Type} {enc : TypeId × Value → H} {spare : Nat → Bool} {held : Bool} {base fuel n : Nat} {t e : TypeId} {k : IntKind} {cs : List Value} {ls : List Int} {p : List MemPlace}
    (ht : P.underlying t = some (.array n e)) (he : P.underlying e = some (.int k)) (h1 : P.cellsOf e = 1) (hn : P.cellsOf t = n)
    (h : DataW.trod enc P w base spare held fuel t cs = some (.agg (ls.map fun m => .lit (.int k m)), p)) : cs = ls.map (Value.int k) := by
  obtain ⟨xs, m, rfl, hx, hlen, hxl, hel⟩ := DataW.trod_array ht h
  simp only [Prod.mk.injEq, DataW.agg.injEq] at hx
  have hll : ls.length = n := by
    have := congrArg List.length hx.1
    simp only [List.length_map] at this
    omega
  apply List.ext_getElem
  · simp; omega
  · intro i h2 h3
    have hi : i < n := by omega
    have h4 := hel i hi
    rw [h1, Nat.mul_one, List.getElem?_eq_getElem (by omega)] at h4
    obtain ⟨q, e1, e2, _⟩ := DataW.trod_int he h4
    have e3 : (xs.map (·.1))[i]? = some (.lit (.int k q)) := by rw [List.getElem?_map, List.getElem?_eq_getElem (by omega), e2]; rfl
    rw [← hx.1, List.getElem?_map, List.getElem?_eq_getElem (by omega)] at e3
    simp only [Option.map_some, Option.some.injEq, DataW.lit.injEq, Lit.int.injEq, true_and] at e3
    have e4 : cs[i]? = some (.int k q) := by
      have := congrArg (·[0]?) e1
      simpa using this
    rw [List.getElem?_eq_getElem h2] at e4
    rw [Option.some.inj e4, List.getElem_map, e3]
end Go.Am
