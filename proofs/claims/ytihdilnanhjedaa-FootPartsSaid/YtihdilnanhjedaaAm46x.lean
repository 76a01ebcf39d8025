import Derived.Test.YtihdilnanhjedaaAm43x
set_option linter.unusedVariables false
set_option linter.unusedSimpArgs false
/- strings.Builder: equations. -/
namespace Go.Am
open Go

section
variable {P : Program} {h : AH} {t u e : TypeId} {b o n len : Nat} {x s : Value} {new c : Array Value}
theorem aalloc_bld {i : TypeInfo} {z : Value} (hi : P.info? t = some i) (hz : i.zero = some z) (hb : isBld P t = true) (hc : z.cells.toList = [.pointer none, .slice none 0 0]) :
    aalloc P h t = some (.pointer (some ⟨h.length, 0, none⟩), h ++ [.cells #[.pointer none, bnil] (tagN + t) true]) := by
  simp only [aalloc, hi, hz, hb, if_true, abld, hc]
theorem aappendT_eq {m by_ : Nat} {g : Bool} {zc : Array Value} (hu : P.underlying t = some (.slice e)) (ha : slc P t = some (g, m, by_)) (hz : zeroCellsOf P e = some zc) (hn : nint P u = true) (hs : asource h m x = some (n, new)) :
    aappendT P h t u s x = (match s with
        | .slice none 0 0 => if n = 0 then some (.slice none 0 0, h) else
            if (2 * n + 192) * by_ ≤ 2 ^ 48 ∧ n < 2 ^ 62 then some (.slice (some ⟨h.length, 0, none⟩) n n, h ++ [.cells new m true]) else none
        | .func (.yield 2) xs ks => if xs.size = 0 ∧ ks.size = 0 ∧ m = 1 then
            if n = 0 then some (bnil, h) else
            if (2 * n + 192) * by_ ≤ 2 ^ 48 ∧ n < 2 ^ 62 then some (.slice (some ⟨h.length, 0, none⟩) n n, h ++ [.cells new (tagN + e) true]) else none
            else none
        | .slice (some ⟨b, o, none⟩) len cap =>
            if n = 0 ∧ len ≤ cap then some (.slice (some ⟨b, o, none⟩) len cap, h) else
            match h[b]? with
            | some (.cells c es true) =>
              if o + len * m ≤ c.size ∧ appFits es m e o then
                if len + n ≤ cap then
                  if o + (len + n) * m ≤ c.size then some (.slice (some ⟨b, o, none⟩) (len + n) cap, h.set b (.cells (blit c (o + len * m) new.toList) es true)) else none
                else if (2 * (len + n) + 192) * by_ ≤ 2 ^ 48 ∧ len + n < 2 ^ 62 then
                  some (.slice (some ⟨h.length, 0, none⟩) (len + n) (len + n), h.set b .dead ++ [.cells (c.extract o (o + len * m) ++ new) es true]) else none
              else none
            | _ => none
        | _ => none) := by
  obtain ⟨elem, ie, hu2, ht, hie, hsz, hby⟩ := slc_spec ha
  rw [hu] at hu2
  cases hu2
  have : aappended P h e u m x = asource h m x := by
    unfold nint at hn
    unfold aappended
    split at hn
    · cases hn
    · rename_i d hd hu2
      rw [hu2]
      cases d <;> first | rfl | (exfalso; exact hd _ rfl)
    · cases hn
  simp only [aappendT, aappend, hu, hie, hz, hsz, this, hs, hby]
  rfl
/-- append to a builder's slice that has not been written -/
theorem app_bnil {by_ : Nat} {g : Bool} {zc : Array Value} (hu : P.underlying t = some (.slice e)) (ha : slc P t = some (g, 1, by_)) (hz : zeroCellsOf P e = some zc) (hn : nint P u = true) (hs : asource h 1 x = some (n, new)) (h0 : 0 < n) (hb : (2 * n + 192) * by_ ≤ 2 ^ 48 ∧ n < 2 ^ 62) :
    aappendT P h t u bnil x = some (.slice (some ⟨h.length, 0, none⟩) n n, h ++ [.cells new (tagN + e) true]) := by
  rw [aappendT_eq hu ha hz hn hs]
  show (if _ then if n = 0 then some (bnil, h) else if _ then _ else none else none) = _
  rw [if_pos ⟨rfl, rfl, rfl⟩, if_neg (by omega), if_pos hb]
/-- .. that has -/
theorem app_btag {by_ : Nat} {g : Bool} {zc : Array Value} (hu : P.underlying t = some (.slice e)) (ha : slc P t = some (g, 1, by_)) (hz : zeroCellsOf P e = some zc) (hn : nint P u = true) (hs : asource h 1 x = some (n, new)) (h0 : 0 < n)
    (hb : h[b]? = some (.cells c (tagN + e) true)) (hc : c.size = len) (hbd : (2 * (len + n) + 192) * by_ ≤ 2 ^ 48 ∧ len + n < 2 ^ 62) :
    aappendT P h t u (.slice (some ⟨b, 0, none⟩) len len) x = some (.slice (some ⟨h.length, 0, none⟩) (len + n) (len + n), h.set b .dead ++ [.cells (c ++ new) (tagN + e) true]) := by
  rw [aappendT_eq hu ha hz hn hs]
  simp only [hb]
  rw [if_neg (by omega), if_pos ⟨by omega, .inr ⟨rfl, rfl, rfl⟩⟩, if_neg (by omega), if_pos hbd]
  have : c.extract 0 (0 + len * 1) = c := by rw [Nat.zero_add, Nat.mul_one, ← hc, Array.extract_size]
  rw [this]
theorem mkApp_btag {m by_ es : Nat} {g : Bool} (hb : h[b]? = some (.cells c es true)) (hes : es ≠ m) (h0 : 0 < n) : mkApp h (.slice (some ⟨b, o, none⟩) len len) (some (g, m, by_)) (some (n, new)) = none := by
  rw [mkApp_s, if_neg (by omega), hb]
  show (if _ then _ else none) = none
  rw [if_neg (fun hh => hes hh.2)]
theorem mkApp_bnil {m by_ : Nat} {g : Bool} : mkApp h bnil (some (g, m, by_)) (some (n, new)) = none := rfl
theorem aconv_toU {j : TypeInfo} {es : Nat} {rw : Bool} (hs : P.underlying t = some (.pointer e)) (hd : P.underlying u = some .unsafePointer) (hj : P.info? e = some j) (hb : h[b]? = some (.cells c es rw)) (ho : o < c.size) (hj0 : j.size ≠ 0) :
    aconvert P h t u (.pointer (some ⟨b, o, none⟩)) = some (.pointer (some ⟨b, o, none⟩), h) := by
  simp only [aconvert, hs, hd, hb, hj, ho, hj0, ne_eq, not_false_eq_true, and_self, if_true]
theorem aconv_fromU {j : TypeInfo} (hs : P.underlying t = some .unsafePointer) (hd : P.underlying u = some (.pointer e)) (hj : P.info? e = some j) (hb : h[b]? = some (.cells c (tagN + e) true)) (hj0 : j.size ≠ 0) (hjc : j.size ≤ c.size) :
    aconvert P h t u (.pointer (some ⟨b, 0, none⟩)) = some (.pointer (some ⟨b, 0, none⟩), h) := by
  simp only [aconvert, hs, hd, hb, hj, hj0, hjc, ne_eq, not_false_eq_true, and_self, if_true]
theorem acall_noescape {F : FuncId} (hb : hasBody P F = false) (h1 : isName P F "internal/abi.NoEscape" = true) : acall P h (.func (.func F) #[] #[]) #[x] = aval h (some x) := by
  simp [acall, hb, aextern, h1]
theorem abin_neqP {x y : Operand} (hp : ptrT P t = true) : abinOp P .neq t x y (.pointer (some ⟨b, o, none⟩)) (.pointer (some ⟨b, o, none⟩)) = some (.bool false) := by
  simp [abinOp, hp]
theorem astring_some {l : List UInt8} (hu : P.underlying t = some (.pointer e)) (hb : h[b]? = some (.cells (flatV encU8 l) (tagN + e) true)) (he : P.cellsOf e = 1) (h0 : 0 < l.length) (h1 : l.length < 2 ^ 62) :
    astring P h t (.pointer (some ⟨b, 0, none⟩)) (.int .i64 ((l.length : Nat) : Int)) = some (.string ⟨l.toArray⟩, h.set b .dead) := by
  have hm : ((l.length : Nat) : Int) ≤ IntKind.i64.max := by
    have : IntKind.i64.max = 9223372036854775807 := rfl
    omega
  have e1 : ((flatV encU8 l).extract 0 (0 + ((l.length : Nat) : Int).toNat)).toList = l.map fun b => Value.int .u8 b.toNat := by
    have : 0 + ((l.length : Nat) : Int).toNat = (flatV encU8 l).size := by rw [size_u8]; omega
    rw [this, Array.extract_size, flat_u8]
  have hc : 0 < ((l.length : Nat) : Int) ∧ ((l.length : Nat) : Int) ≤ IntKind.i64.max ∧ tagN + e = tagN + e ∧ P.cellsOf e = 1 ∧ 0 + ((l.length : Nat) : Int).toNat ≤ (flatV encU8 l).size := ⟨by omega, hm, rfl, he, by rw [size_u8]; omega⟩
  obtain ⟨m, hm⟩ : ∃ m : Int, m = ((l.length : Nat) : Int) := ⟨_, rfl⟩
  rw [← hm] at e1 hc ⊢
  unfold astring
  rw [hu]
  simp only [hb]
  rw [if_pos ⟨hc.1, hc.2.1, trivial, hc.2.2.2.1, hc.2.2.2.2⟩, e1, bytesIn_u8]
  rfl
variable {dst : Option Tmp} {ty : TypeId} {pos : String} {after : Array Edge} {guard : Option (Nat × Bool)} {ρ : Operand → Value}
theorem aop_usd {x : Operand} {t : TypeId} : aop P ρ h ⟨dst, .call ⟨.builtin .unsafeSliceData, #[x], #[t]⟩, ty, pos, after, guard⟩ = aval h (asliceData (ρ x)) := by simp [aop, abuiltin]
theorem aop_ustr {x y : Operand} {t u : TypeId} : aop P ρ h ⟨dst, .call ⟨.builtin .unsafeString, #[x, y], #[t, u]⟩, ty, pos, after, guard⟩ = avalh (astring P h t (ρ x) (ρ y)) := by simp [aop, abuiltin]
theorem asliceData_s {c : Nat} (hc : c ≠ 0) : asliceData (.slice (some ⟨b, o, none⟩) len c) = some (.pointer (some ⟨b, o, none⟩)) := if_pos hc
theorem asource_str {s : ByteArray} : asource h 1 (.string s) = some (s.size, s.data.map fun b => .int .u8 b.toNat) := rfl
theorem len_bnil (hu : P.underlying t = some (.slice e)) : alen P h t bnil = some (.int .i64 0) := by
  simp only [alen, bnil, hu]
end
theorem sto_bnil : storable bnil = true := rfl
theorem cells_bnil : Value.cells bnil = #[bnil] := rfl
attribute [go_sem] aop_usd aop_ustr sto_bnil cells_bnil mkApp_bnil asource_str
end Go.Am
set_option linter.unusedVariables false
set_option linter.unusedSimpArgs false
/- Strings as lists of bytes. -/
namespace Go.Am
open Go

def bs (l : List UInt8) : ByteArray := ⟨l.toArray⟩
theorem mk_bs (l : List UInt8) : (⟨l.toArray⟩ : ByteArray) = bs l := rfl
theorem bs_data (s : ByteArray) : s = bs s.data.toList := rfl
theorem size_bs (l : List UInt8) : (bs l).size = l.length := by simp [bs, ByteArray.size]
theorem toList_bs (l : List UInt8) : (bs l).toList = l := str_toList l
theorem data_bs (l : List UInt8) : (bs l).data = l.toArray := rfl
theorem empty_bs : ByteArray.empty = bs [] := rfl
theorem app_bs (a b : List UInt8) : bs a ++ bs b = bs (a ++ b) := by
  apply ByteArray.ext
  rw [ByteArray.data_append]; simp [bs]
theorem ext_bs (l : List UInt8) (i j : Nat) : (bs l).extract i j = bs ((l.take j).drop i) := by
  apply ByteArray.ext
  rw [ByteArray.data_extract]; simp [bs, List.drop_take]
theorem get_bs (l : List UInt8) (i : Nat) : (bs l)[i]? = l[i]? := by
  by_cases h : i < l.length
  · rw [List.getElem?_eq_getElem h, getElem?_pos (bs l) i (by rw [size_bs]; exact h)]; rfl
  · rw [List.getElem?_eq_none (by omega), getElem?_neg (bs l) i (by rw [size_bs]; exact h)]
theorem bs_inj {a b : List UInt8} : bs a = bs b ↔ a = b := ⟨fun h => by rw [← toList_bs a, h, toList_bs], fun h => by rw [h]⟩

section
variable {P : Program} {h : AH} {t : TypeId} {x y : Operand} {l a b : List UInt8}
theorem isStr_u (ha : isStr P t = true) : P.underlying t = some .string := by
  unfold isStr at ha
  split at ha
  · assumption
  · cases ha
theorem aindex_bs {k : IntKind} {i : Nat} (ha : isStr P t = true) : aindex P t (.string (bs l)) (.int k ((i : Nat) : Int)) = l[i]?.map fun b => .int .u8 b.toNat := by
  have hu := isStr_u ha
  have : aindex P t (.string (bs l)) (.int k ((i : Nat) : Int)) = if (0 : Int) ≤ ((i : Nat) : Int) then ((bs l)[((i : Nat) : Int).toNat]?).map (fun b => .int .u8 b.toNat) else none := by
    simp only [aindex, hu]
  rw [this, if_pos (by omega), Int.toNat_natCast, get_bs]
theorem aindex_bs0 {k : IntKind} (ha : isStr P t = true) : aindex P t (.string (bs l)) (.int k 0) = l[0]?.map fun b => .int .u8 b.toNat := aindex_bs (i := 0) ha
theorem aindex_bs1 {k : IntKind} (ha : isStr P t = true) : aindex P t (.string (bs l)) (.int k 1) = l[1]?.map fun b => .int .u8 b.toNat := aindex_bs (i := 1) ha
theorem abin_addL (hl : a.length + b.length < 2 ^ 63) : abinOp P .add t x y (.string (bs a)) (.string (bs b)) = some (.string (bs (a ++ b))) := by
  rw [abin_addS, app_bs]
  rw [size_bs, size_bs]; omega
theorem abin_eqlL : abinOp P .eql t x y (.string (bs a)) (.string (bs b)) = some (.bool (a == b)) := by
  rw [abin_eqlS, toList_bs, toList_bs]
theorem abin_neqL : abinOp P .neq t x y (.string (bs a)) (.string (bs b)) = some (.bool (!(a == b))) := by
  rw [abin_neqS, toList_bs, toList_bs]
theorem slT_lo {i : Nat} (hi : i ≤ l.length) : mkSliceT (bs l) (some (.int .i64 ((i : Nat) : Int))) none true = some (.string (bs (l.drop i))) := by
  have h1 : abounds (bs l).size (bs l).size (some (.int .i64 ((i : Nat) : Int))) none = some (i, l.length) := by
    rw [size_bs]
    have : (0 : Int) ≤ (i : Int) ∧ (i : Int) ≤ (l.length : Int) := by omega
    simp [abounds, abound, this, hi]
  unfold mkSliceT
  simp only [h1]
  rw [ext_bs, List.take_length]
theorem slT_both {k k' : IntKind} {i j : Nat} (hij : i ≤ j) (hj : j ≤ l.length) : mkSliceT (bs l) (some (.int k ((i : Nat) : Int))) (some (.int k' ((j : Nat) : Int))) true = some (.string (bs ((l.take j).drop i))) := by
  have h1 : abounds (bs l).size (bs l).size (some (.int k ((i : Nat) : Int))) (some (.int k' ((j : Nat) : Int))) = some (i, j) := by
    rw [size_bs]
    simp [abounds, abound, hij, hj]
  unfold mkSliceT
  simp only [h1]
  rw [ext_bs]
theorem aconv_slB {src dst e : TypeId} {s : Sl UInt8} (hs : P.underlying src = some (.slice e)) (he : P.underlying e = some (.int .u8)) (hd : P.underlying dst = some .string) :
    aconvert P h src dst (slV encU8 s) = some (.string (bs s.l), h) := aconv_slV hs he hd
end
attribute [go_sem] size_bs toList_bs abin_eqlL abin_neqL

/-! digits -/
def digitsL : List UInt8 := [48, 49, 50, 51, 52, 53, 54, 55, 56, 57, 97, 98, 99, 100, 101, 102]
theorem digits_lit : bs [48, 49, 50, 51, 52, 53, 54, 55, 56, 57, 97, 98, 99, 100, 101, 102] = bs digitsL := rfl
def dig (n : Nat) : UInt8 := digitsL.getD n 0
theorem digitsL_get {n : Nat} (h : n < 16) : digitsL[n]? = some (dig n) := by
  unfold dig
  rw [List.getD_eq_getElem?_getD, List.getElem?_eq_getElem (show n < digitsL.length from h)]; rfl
theorem digitsL_cut {n : Nat} (h : n < 16) : (digitsL.take (n + 1)).drop n = [dig n] := by
  have : ∀ n : Fin 16, (digitsL.take (n.1 + 1)).drop n.1 = [dig n.1] := by decide
  exact this ⟨n, h⟩
def hexB (b : UInt8) : List UInt8 := [dig (b.toNat / 16), dig (b.toNat % 16)]
/-- bytes as digits -/
def hexL (l : List UInt8) : List UInt8 := l.flatMap hexB
def hexW (l : List UInt8) : List UInt8 := 48 :: 120 :: hexL l
theorem length_hexL (l : List UInt8) : (hexL l).length = 2 * l.length := by
  induction l with
  | nil => rfl
  | cons b l ih => rw [hexL, List.flatMap_cons, List.length_append, ← hexL, ih]; simp [hexB]; omega
theorem length_hexW (l : List UInt8) : (hexW l).length = 2 * l.length + 2 := by simp [hexW, length_hexL]
theorem hexW_snoc (l : List UInt8) (b : UInt8) : hexW (l ++ [b]) = hexW l ++ [dig (b.toNat / 16), dig (b.toNat % 16)] := by
  simp [hexW, hexL, hexB]
end Go.Am
namespace Go.Am
open Go
def bldC (n k m c es : Nat) : AObj := .cells #[.pointer (some ⟨n, 0, none⟩), .slice (some ⟨n + k, 0, none⟩) m c] es true
theorem tree_bufC {l : List UInt8} : ∀ v ∈ (l.flatMap encU8), Tree v := fun v hv => by obtain ⟨x, _, hx⟩ := List.mem_flatMap.1 hv; exact tree_encU8 _ _ hx
/-- a builder and its bytes stay -/
theorem pickB {P : Program} {h0 t : AH} {l l1 : List Value} {m c es es2 : Nat} {L : List UInt8} (k : Nat) (hk : 1 ≤ k) (h1 : t[0]? = some (bldC h0.length k m c es)) (h2 : t[k]? = some (.cells (flatV encU8 L) es2 true))
    (hv : KeepsS (Am.pick h0.length [0, k]) (h0.length + 2) l l1) : Eases P h0 l.toArray (h0 ++ t) l1.toArray (h0 ++ [bldC h0.length 1 m c es, .cells (flatV encU8 L) es2 true]) := by
  refine Eases.pickN [0, k] rfl (by simp; omega) (fun i o hi => ?_) hv
  match i, hi with
  | 0, hi =>
    simp at hi; subst hi
    refine ⟨_, h1, _, rfl, rfl, fun i => ?_⟩
    match i with
    | 0 =>
      show VRen _ _ (.pointer (some ⟨h0.length, 0, none⟩)) (.pointer (some ⟨h0.length, 0, none⟩))
      exact .ptr _ _ _ (by simp) (by simpa using (pick_new h0.length [0, k] 0).symm)
    | 1 =>
      show VRen _ _ (.slice (some ⟨h0.length + 1, 0, none⟩) m c) (.slice (some ⟨h0.length + k, 0, none⟩) m c)
      exact .slice _ _ _ _ _ (by simp) (by rw [pick_new]; rfl)
    | i + 2 =>
      show VRen _ _ Am.junk Am.junk
      exact .junk _
  | 1, hi => simp at hi; subst hi; exact ⟨_, h2, ORen.plainCells (l := L.flatMap encU8) tree_bufC⟩
theorem oren_bldB {h0 : AH} {m c es es2 L : Nat} {l : List UInt8} (hL : L = h0.length + 2) : ∀ o ∈ [bldC h0.length 1 m c es, .cells (flatV encU8 l) es2 true], ORen id L o o := by
  intro o ho
  subst hL
  rcases List.mem_cons.1 ho with rfl | ho
  · refine ⟨_, rfl, rfl, fun i => ?_⟩
    match i with
    | 0 => exact .ptr _ _ _ (by simp) rfl
    | 1 => exact .slice _ _ _ _ _ (by simp) rfl
    | i + 2 => exact .junk _
  · rw [List.mem_singleton] at ho; subst ho
    exact ORen.plainCells (l := l.flatMap encU8) tree_bufC
theorem u8_shr4 (b : UInt8) : (((b.toNat : Nat) : Int).fdiv 16) = ((b.toNat / 16 : Nat) : Int) := by
  rw [Int.fdiv_eq_ediv_of_nonneg _ (by decide)]; simp
theorem u8_and15 (b : UInt8) : IntKind.u8.wrap (((BitVec.ofInt 8 ((b.toNat : Nat) : Int) &&& BitVec.ofInt 8 15).toNat : Nat) : Int) = ((b.toNat % 16 : Nat) : Int) := by
  have h := b.toNat_lt
  have e : (BitVec.ofInt 8 ((b.toNat : Nat) : Int) &&& BitVec.ofInt 8 15).toNat = b.toNat % 16 := by
    rw [BitVec.toNat_and]
    have h1 : (BitVec.ofInt 8 ((b.toNat : Nat) : Int)).toNat = b.toNat := by
      simp [BitVec.toNat_ofInt]
    have h2 : (BitVec.ofInt 8 15).toNat = 15 := rfl
    rw [h1, h2]
    exact Nat.and_two_pow_sub_one_eq_mod _ 4
  rw [e]
  exact wrap_u8_of _ (by omega) (by omega)
theorem abin_and15 {P : Program} {t : TypeId} {x y : Operand} (b : UInt8) : abinOp P .and t x y (.int .u8 ((b.toNat : Nat) : Int)) (.int .u8 15) = some (.int .u8 ((b.toNat % 16 : Nat) : Int)) := by
  rw [abin_and]
  exact congrArg (fun z => some (Value.int .u8 z)) (u8_and15 b)
attribute [go_sem high] abin_and15
theorem slT_1 {d : UInt8} {y : List UInt8} : mkSliceT (bs (d :: y)) (some (.int .i64 1)) none true = some (.string (bs y)) := slT_lo (l := d :: y) (i := 1) (by simp)
theorem slT_2 {d e : UInt8} {y : List UInt8} : mkSliceT (bs (d :: e :: y)) (some (.int .i64 2)) none true = some (.string (bs y)) := slT_lo (l := d :: e :: y) (i := 2) (by simp)
attribute [go_sem ↓ high] slT_1 slT_2
theorem beq_u8 (a b : UInt8) : (((a.toNat : Nat) : Int) == ((b.toNat : Nat) : Int)) = (a == b) := by
  by_cases h : a = b
  · subst h; rw [beq_self_eq_true, beq_self_eq_true]
  · have h1 : a.toNat ≠ b.toNat := fun e => h (UInt8.toNat_inj.1 e)
    have h2 : ¬ (((a.toNat : Nat) : Int) = ((b.toNat : Nat) : Int)) := by omega
    rw [beq_eq_false_iff_ne.2 h2, beq_eq_false_iff_ne.2 h]
theorem dropWhile_hd {p : UInt8 → Bool} {d : UInt8} {y : List UInt8} (h : p d = true) : (d :: y).dropWhile p = y.dropWhile p := by simp [h]
/-- without the zeros ahead; but one letter stays -/
def trimN (l : List UInt8) : List UInt8 := if (l.dropWhile (· == 48)) == [] then [48] else l.dropWhile (· == 48)
def strip : List UInt8 → List UInt8
  | d :: e :: y => if d == 48 then strip (e :: y) else d :: e :: y
  | l => l
theorem strip_trim : ∀ l : List UInt8, l ≠ [] → strip l = trimN l
  | [], h => absurd rfl h
  | [d], _ => by
    by_cases hd : d = 48
    · subst hd; rfl
    · simp [strip, trimN, hd]
  | d :: e :: y, _ => by
    rw [strip]
    by_cases hd : d = 48
    · subst hd
      rw [if_pos (show ((48 : UInt8) == 48) = true from rfl), strip_trim (e :: y) (by simp)]
      simp [trimN]
    · simp [trimN, hd]
theorem cons_beq_nil {d : UInt8} {y : List UInt8} : ((d :: y) == ([] : List UInt8)) = false := rfl
theorem nil_beq_nil : (([] : List UInt8) == ([] : List UInt8)) = true := rfl
attribute [go_sem] cons_beq_nil nil_beq_nil
def numW (w : Word4) : List UInt8 := 48 :: 120 :: trimN (hexL (bytesW w))
theorem length_dropWhile {p : UInt8 → Bool} (l : List UInt8) : (l.dropWhile p).length ≤ l.length := (List.dropWhile_suffix p).length_le
end Go.Am
set_option linter.unusedVariables false
set_option linter.unusedSimpArgs false
/- Digits read. -/
namespace Go.Am
open Go

theorem apost_two {P : Program} {h0 h : AH} {fn : Func} {R : Value → AH → Prop} {t u : Nat} {lst : List Value} {v w v1 w1 : Value} (hr : fn.results = #[.tmp t, .tmp u]) (hk : keeps h0 h) (hv : lst.getD t junk = v) (hw : lst.getD u junk = w)
    (rv : Rf h (dieNew h0 h) v v1) (rw' : Rf h (dieNew h0 h) w w1) (tv : Tree v1) (tw : Tree w1) (hR : R (.tuple #[v1, w1]) h0) : apost P h0 fn R .ret lst.toArray h := by
  refine apost_tree (v := .tuple #[v, w]) (v1 := .tuple #[v1, w1]) (by rw [aresults_tmp2 hr, getD_lit, getD_lit, hv, hw]) hk ?_ ?_ hR
  · refine .tuple _ _ rfl fun i => ?_
    match i with
    | 0 => exact rv
    | 1 => exact rw'
    | i + 2 => exact .junk _
  · refine .tuple _ fun i => ?_
    match i with
    | 0 => exact tv
    | 1 => exact tw
    | i + 2 => exact .junk

/-- a digit's number -/
def dgt (c : UInt8) : Option UInt8 := if 65 ≤ c.toNat ∧ c.toNat ≤ 70 then some (c - 55) else if 97 ≤ c.toNat ∧ c.toNat ≤ 102 then some (c - 87) else if 48 ≤ c.toNat ∧ c.toNat ≤ 57 then some (c - 48) else none
def dz (c : UInt8) : UInt8 := (dgt c).getD 0
def isD (c : UInt8) : Bool := (dgt c).isSome
def valsR (r : List UInt8) : Option (List UInt8) := if r.all isD = true then some (r.map dz) else none
/-- what stands behind the front -/
def cutS : List UInt8 → Option (List UInt8)
  | 48 :: 120 :: r => some r
  | _ => none
def valsS (s : List UInt8) : Option (List UInt8) := (cutS s).bind valsR
def pr (a b : UInt8) : UInt8 := (a <<< 4) ||| b
def pairsL : List UInt8 → List UInt8
  | a :: b :: r => pr a b :: pairsL r
  | _ => []
def readM (s : List UInt8) : Option (List UInt8) := (valsS s).bind fun l => if l.length % 2 = 0 then some (pairsL l) else none
def evenL (l : List UInt8) : List UInt8 := if l.length % 2 = 0 then l else 0 :: l
def cntOk (l : List UInt8) : Bool := decide (1 ≤ l.length) && decide (l.length ≤ 64) && !((l.getD 0 0 == 0) && decide (1 < l.length))
def countM (s : List UInt8) : Option Word4 := (valsS s).bind fun l => if cntOk l = true then some (rdW (pairsL (evenL l))) else none

theorem dgt_up {c : UInt8} (h1 : 65 ≤ c.toNat) (h2 : c.toNat ≤ 70) : dgt c = some (c - 55) := if_pos ⟨h1, h2⟩
theorem dgt_low {c : UInt8} (h1 : 97 ≤ c.toNat) (h2 : c.toNat ≤ 102) : dgt c = some (c - 87) := by unfold dgt; rw [if_neg (by omega), if_pos ⟨h1, h2⟩]
theorem dgt_num {c : UInt8} (h1 : 48 ≤ c.toNat) (h2 : c.toNat ≤ 57) : dgt c = some (c - 48) := by unfold dgt; rw [if_neg (by omega), if_neg (by omega), if_pos ⟨h1, h2⟩]
theorem dgt_none {c : UInt8} (h1 : ¬ (65 ≤ c.toNat ∧ c.toNat ≤ 70)) (h2 : ¬ (97 ≤ c.toNat ∧ c.toNat ≤ 102)) (h3 : ¬ (48 ≤ c.toNat ∧ c.toNat ≤ 57)) : dgt c = none := by unfold dgt; rw [if_neg h1, if_neg h2, if_neg h3]
theorem sub8 {c k : UInt8} (h : k.toNat ≤ c.toNat) : (c - k).toNat = c.toNat - k.toNat := UInt8.toNat_sub_of_le _ _ (UInt8.le_iff_toNat_le.2 h)

/-- the numbers, so far -/
def dzI (r : List UInt8) (i : Nat) : List UInt8 := (r.take i).map dz ++ List.replicate (r.length - i) 0
theorem length_dzI {r : List UInt8} {i : Nat} (hi : i ≤ r.length) : (dzI r i).length = r.length := by simp [dzI]; omega
theorem dzI_set {r : List UInt8} {i : Nat} (hi : i < r.length) : (dzI r i).set i (dz r[i]) = dzI r (i + 1) := by
  apply List.ext_getElem
  · rw [List.length_set, length_dzI (by omega), length_dzI (by omega)]
  · intro j h1 h2
    rw [length_dzI (by omega)] at h2
    rw [List.getElem_set]
    by_cases he : i = j
    · subst he
      rw [if_pos rfl]
      simp only [dzI, List.getElem_append, List.length_map, List.length_take]
      rw [dif_pos (by omega)]
      simp
    · rw [if_neg he]
      simp only [dzI, List.getElem_append, List.length_map, List.length_take]
      by_cases h3 : j < i
      · rw [dif_pos (by omega), dif_pos (by omega)]; simp
      · rw [dif_neg (by omega), dif_neg (by omega)]; simp
theorem dzI_all (r : List UInt8) : dzI r r.length = r.map dz := by simp [dzI]
theorem dzI_0 (r : List UInt8) : dzI r 0 = List.replicate r.length 0 := by simp [dzI]

theorem pairsL_snocD : ∀ (k : Nat) (l : List UInt8) (h : 2 * k + 1 < l.length), pairsL (l.take (2 * k + 2)) = pairsL (l.take (2 * k)) ++ [pr (l.getD (2 * k) 0) (l.getD (2 * k + 1) 0)]
  | 0, a :: b :: r, h => by simp [pairsL]
  | k + 1, a :: b :: r, h => by
    have e2 : 2 * (k + 1) = 2 * k + 2 := by omega
    have := pairsL_snocD k r (by simp at h; omega)
    rw [e2]
    simp only [List.take_succ_cons, pairsL, List.cons_append]
    rw [this]
    simp only [List.getD_cons_succ]
  | _, [], h => by simp at h
  | _, [_], h => by simp at h
theorem getD_at {l : List UInt8} {i : Nat} (h : i < l.length) : l.getD i 0 = l[i] := by rw [List.getD_eq_getElem?_getD, List.getElem?_eq_getElem h]; rfl
theorem pairsL_snoc (k : Nat) (l : List UInt8) (h : 2 * k + 1 < l.length) : pairsL (l.take (2 * k + 2)) = pairsL (l.take (2 * k)) ++ [pr l[2 * k] l[2 * k + 1]] := by
  rw [pairsL_snocD k l h, getD_at (by omega), getD_at h]
theorem pairsL_take (l : List UInt8) {k : Nat} (h1 : 2 * k ≤ l.length) (h2 : l.length ≤ 2 * k + 1) : pairsL (l.take (2 * k)) = pairsL l := by
  induction k generalizing l with
  | zero =>
    match l with
    | [] => rfl
    | [_] => rfl
    | _ :: _ :: _ => simp at h2
  | succ k ih =>
    match l with
    | a :: b :: r =>
      rw [show 2 * (k + 1) = 2 * k + 2 from rfl]
      simp only [List.take_succ_cons, pairsL]
      rw [ih r (by simp at h1; omega) (by simp at h2; omega)]
    | [] => simp at h1
    | [_] => simp at h1; omega
theorem length_pairsL : ∀ l : List UInt8, (pairsL l).length = l.length / 2
  | [] => rfl
  | [_] => by simp [pairsL]
  | a :: b :: r => by rw [pairsL, List.length_cons, length_pairsL r]; simp; omega

theorem slT_hi {l : List UInt8} {j : Nat} (hj : j ≤ l.length) : mkSliceT (bs l) none (some (.int .i64 ((j : Nat) : Int))) true = some (.string (bs (l.take j))) := by
  have h1 : abounds (bs l).size (bs l).size none (some (.int .i64 ((j : Nat) : Int))) = some (0, j) := by
    rw [size_bs]
    simp [abounds, abound, hj]
  unfold mkSliceT
  simp only [h1]
  rw [ext_bs, List.drop_zero]

section
variable {P : Program} {t : TypeId} {x y : Operand}
theorem bits8 (f : BitVec 8 → BitVec 8 → BitVec 8) (g : UInt8 → UInt8 → UInt8) (h : ∀ a b, (g a b).toBitVec = f a.toBitVec b.toBitVec) (a b : UInt8) :
    IntKind.u8.wrap ((f (BitVec.ofInt 8 ((a.toNat : Nat) : Int)) (BitVec.ofInt 8 ((b.toNat : Nat) : Int))).toNat : Nat) = (((g a b).toNat : Nat) : Int) := by
  have e : ∀ a : UInt8, BitVec.ofInt 8 ((a.toNat : Nat) : Int) = a.toBitVec := by intro a; rw [BitVec.ofInt_natCast]; simp
  rw [e, e, ← h]
  have e2 : (g a b).toBitVec.toNat = (g a b).toNat := rfl
  have := (g a b).toNat_lt
  rw [e2]; exact wrap_u8_of _ (by omega) (by omega)
theorem abin_or8 (a b : UInt8) : abinOp P .or t x y (.int .u8 ((a.toNat : Nat) : Int)) (.int .u8 ((b.toNat : Nat) : Int)) = some (.int .u8 (((a ||| b).toNat : Nat) : Int)) := by
  rw [abin_or]
  exact congrArg (fun n => some (Value.int .u8 n)) (bits8 (· ||| ·) (· ||| ·) (fun _ _ => rfl) a b)
theorem abin_shl4 (a : UInt8) : abinOp P .shl t x y (.int .u8 ((a.toNat : Nat) : Int)) (.int .u64 4) = some (.int .u8 (((a <<< 4).toNat : Nat) : Int)) := by
  rw [abin_shl (by omega)]
  have e : ((a.toNat : Nat) : Int) * 2 ^ (min (4 : Int).toNat IntKind.u8.bits) = ((a.toNat * 16 : Nat) : Int) := by push_cast; rfl
  have e2 : (a <<< 4).toNat = a.toNat * 16 % 256 := by
    rw [UInt8.toNat_shiftLeft]
    show a.toNat <<< 4 % 256 = _
    rw [Nat.shiftLeft_eq]
  rw [e, e2]
  simp only [IntKind.wrap, IntKind.bits, IntKind.signed, Bool.false_and, Bool.false_eq_true, if_false]
  rfl
end
attribute [go_sem high] abin_or8 abin_shl4
end Go.Am
namespace Go.Am
open Go
/-- two plain results -/
theorem apost_pp {P : Program} {h0 : AH} {fn : Func} {R : Value → AH → Prop} {t u : Nat} {lst : List Value} (v w : Value) (hr : fn.results = #[.tmp t, .tmp u]) (hv : lst.getD t junk = v) (hw : lst.getD u junk = w)
    (tv : Tree v) (tw : Tree w) (hR : R (.tuple #[v, w]) h0) : apost P h0 fn R .ret lst.toArray h0 :=
  apost_two hr (keeps_refl _) hv hw (.same _) (.same _) tv tw hR
/-- .. new blocks are dropped -/
theorem apost_pp1 {P : Program} {h0 t1 : AH} {fn : Func} {R : Value → AH → Prop} {t u : Nat} {lst : List Value} (v w : Value) (hr : fn.results = #[.tmp t, .tmp u]) (hv : lst.getD t junk = v) (hw : lst.getD u junk = w)
    (tv : Tree v) (tw : Tree w) (hR : R (.tuple #[v, w]) h0) : apost P h0 fn R .ret lst.toArray (h0 ++ t1) :=
  apost_two hr (keeps_append _ _) hv hw (.same _) (.same _) tv tw hR
end Go.Am
namespace Go.Am
open Go
def gvalV (want : Bool) : Value → Option Bool
  | .bool b => some (b == want)
  | .tuple _ => some false
  | _ => none
def gvalO (want : Bool) (a : Array Value) : Option Tmp → Option Bool
  | some d => gvalV want (a.getD d junk)
  | none => none
theorem gval_some {ops : Array Oper} {a : Array Value} {dst : Option Tmp} {op : Op} {ty : TypeId} {pos : String} {after : Array Edge} {j : Nat} {want : Bool} : gval ops a ⟨dst, op, ty, pos, after, some (j, want)⟩ = gvalO want a ((ops[j]?).bind (·.dst)) := by
  unfold gval gvalO gvalV
  simp only
  cases (ops[j]?).bind (·.dst) with
  | none => rfl
  | some d => cases a.getD d junk <;> rfl
theorem gvalO_some {want : Bool} {a : Array Value} {d : Tmp} : gvalO want a (some d) = gvalV want (a.getD d junk) := rfl
theorem gvalV_bool {want b : Bool} : gvalV want (.bool b) = some (b == want) := rfl
theorem gvalV_undef {want : Bool} : gvalV want undef = some false := rfl
attribute [go_sem ↓ high] gval_some
attribute [go_sem] gvalO_some gvalV_bool gvalV_undef
end Go.Am
namespace Go.Am
open Go
/-- a cell and a plain value -/
theorem apost_cellT {P : Program} {h0 : AH} {fn : Func} {R : Value → AH → Prop} {k u : Nat} {ty : TypeId} (v w : Value) {p : Value} (hr : fn.results = #[.cell k ty, .tmp u]) (tv : Tree v) (tw : Tree w) (hR : R (.tuple #[v, w]) h0) (l : List Value) (t : AH)
    (hl : l.getD k junk = p) (hw : l.getD u junk = w) (hv : aload P (h0 ++ t) ty p = some v) : apost P h0 fn R .ret l.toArray (h0 ++ t) := by
  refine apost_tree (v := .tuple #[v, w]) (v1 := .tuple #[v, w]) (by rw [aresults_cell_tmp hr _ _ (by rw [getD_lit, hl]; exact hv), getD_lit, hw]) (keeps_append _ _) (.same _) ?_ hR
  refine .tuple _ fun i => ?_
  match i with
  | 0 => exact tv
  | 1 => exact tw
  | i + 2 => exact .junk
theorem flat_cons8 {d : UInt8} {l : List UInt8} : flatV encU8 (d :: l) = #[.int .u8 ((d.toNat : Nat) : Int)] ++ flatV encU8 l := by
  rw [flat_u8, flat_u8]; simp
theorem tree_agg {l : List Value} (h : ∀ v ∈ l, Tree v) : Tree (.agg l.toArray) := by
  refine .agg _ fun i => ?_
  by_cases hi : i < l.length
  · have : l.toArray.getD i Am.junk = l[i] := by simp [Array.getD, hi]
    rw [this]; exact h _ (List.getElem_mem hi)
  · rw [getD_ge i (by simpa using hi)]; exact .junk
end Go.Am
