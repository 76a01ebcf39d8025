import Derived.Test.YtogefnepdjkioaaAm15
set_option linter.unusedVariables false
set_option linter.unusedSimpArgs false
/- Equations, third part: each operation on memory as a function of closed facts. -/
namespace Go.Am
open Go

/-- a struct's fields: where, how many cells -/
def plc (P : Program) (t : TypeId) : Option (List (Nat × Nat)) :=
  match P.underlying t with
  | some (.struct fields) => (pureRun P (fields.mapM fun f => do pure (f.offset, ← sizeOf f.type) : Sem _)).map (·.toList)
  | _ => none
/-- the zero cells of a slice's, an array's elements -/
def slz (P : Program) (t : TypeId) : Option (Array Value) :=
  match P.underlying t with
  | some (.slice elem) => zeroCellsOf P elem
  | _ => none
def intk (P : Program) (t : TypeId) : Option IntKind :=
  match P.underlying t with
  | some (.int k) => some k
  | _ => none
def isStr (P : Program) (t : TypeId) : Bool := match P.underlying t with | some .string => true | _ => false
/-- there is such a type, and it is no integer -/
def nint (P : Program) (t : TypeId) : Bool := match P.underlying t with | some (.int _) => false | some _ => true | none => false

def mkLoad (o : Nat) : Option (Bool × Nat) → Option AObj → Option Value
  | some (true, n), some (.cells c _ _) => if o + n ≤ c.size then some (.agg (c.extract o (o + n))) else none
  | some (false, _), some (.cells c _ _) => c[o]?
  | _, _ => none
def mkStore (h : AH) (b o : Nat) (v : Value) : Option (Bool × Nat) → Option AObj → Option AH
  | some (_, n), some (.cells c es true) => if storable v = true ∧ v.cells.size = n ∧ o + n ≤ c.size then some (h.set b (.cells (blit c o v.cells.toList) es true)) else none
  | _, _ => none
def mkFieldAddr (b o : Nat) : Option (Nat × Bool × Nat) → Option Value
  | some (off, _, n + 1) => some (.pointer (some ⟨b, o + off, none⟩))
  | _ => none
def mkField (cs : Array Value) : Option (Nat × Bool × Nat) → Option Value
  | some (off, true, n) => if off + n ≤ cs.size then some (.agg (cs.extract off (off + n))) else none
  | some (off, false, _) => cs[off]?
  | none => none
def mkIndex (cs : Array Value) (i : Int) : Option (Nat × Bool × Nat) → Option Value
  | some (n, true, m) => if 0 ≤ i ∧ i < n then (if i.toNat * m + m ≤ cs.size then some (.agg (cs.extract (i.toNat * m) (i.toNat * m + m))) else none) else none
  | some (n, false, m) => if 0 ≤ i ∧ i < n then cs[i.toNat * m]? else none
  | none => none
def mkIndexA (b o : Nat) (i : Int) : Option (Nat × Bool × Nat) → Option Value
  | some (n, _, m) => if 0 ≤ i ∧ i < n then some (.pointer (some ⟨b, o + i.toNat * m, none⟩)) else none
  | none => none
def mkIndexS (b o len : Nat) (i : Int) : Option (Bool × Nat × Nat) → Option Value
  | some (_, m, _) => if 0 ≤ i ∧ i < len then some (.pointer (some ⟨b, o + i.toNat * m, none⟩)) else none
  | none => none
def mkLen (n : Nat) : Option (Bool × Nat × Nat) → Option Value
  | some _ => some (.int .i64 n)
  | none => none
def mkAlloc (h : AH) : Option (Array Value) → Option (Value × AH)
  | some zc => some (.pointer (some ⟨h.length, 0, none⟩), h ++ [.cells zc 0 true])
  | none => none
def mkBuild (parts : List (Nat × Value)) : Option (Array Value) → Option (List (Nat × Nat)) → Option Value
  | some zc, some pl => (afill (fun i => pl[i]?) zc parts).map .agg
  | _, _ => none
def mkBuildA (parts : List (Nat × Value)) : Option (Array Value) → Option (Nat × Bool × Nat) → Option Value
  | some zc, some (_, _, m) => (afill (fun i => some (i * m, m)) zc parts).map .agg
  | _, _ => none
def mkBuildS (h : AH) (len : Nat) (parts : List (Nat × Value)) : Option (Array Value) → Option (Value × AH)
  | some zc => if len * zc.size ≤ 2 ^ 24 then
        match afill (fun i => some (i * zc.size, zc.size)) (zeros zc (len * zc.size)) parts with
        | some cells => some (.slice (some ⟨h.length, 0, none⟩) len len, h ++ [.cells cells zc.size true])
        | none => none
      else none
  | none => none
def mkConvI (h : AH) (n : Int) : Option (Bool × Nat) → Option IntKind → Option (Value × AH)
  | some _, some k => some (.int k (k.wrap n), h)
  | _, _ => none
def mkSliceS (b o len cap : Nat) (lo hi : Option Value) : Option (Bool × Nat × Nat) → Option AObj → Option Value
  | some (_, m, _), some (.cells _ es _) => if es = 0 ∨ es = m then
      match abounds len cap lo hi with
      | some (l, hh) => if hh ≤ cap ∧ len ≤ cap then some (.slice (some ⟨b, o + l * m, none⟩) (hh - l) (cap - l)) else none
      | none => none
    else none
  | _, _ => none
def mkSliceA (b o : Nat) (lo hi : Option Value) : Option (Nat × Bool × Nat) → Option Value
  | some (n, _, m) => match abounds n n lo hi with
      | some (l, hh) => if l = n then none else some (.slice (some ⟨b, o + l * m, none⟩) (hh - l) (n - l))
      | none => none
  | none => none
def mkSliceT (s : ByteArray) (lo hi : Option Value) : Bool → Option Value
  | true => match abounds s.size s.size lo hi with
    | some (l, hh) => some (.string (s.extract l hh))
    | none => none
  | false => none
def mkMake (h : AH) (len cap : Int) : Option (Bool × Nat × Nat) → Option (Array Value) → Option (Value × AH)
  | some (_, m, by_), some zc => if 0 ≤ len ∧ len ≤ cap ∧ cap < 2 ^ 62 ∧ (by_ : Int) * cap ≤ 2 ^ 48 then
        some (.slice (some ⟨h.length, 0, none⟩) len.toNat cap.toNat, h ++ [.cells (zeros zc (cap.toNat * m)) m true]) else none
  | _, _ => none
def mkArrPtr (b o len : Nat) : Option (Nat × Bool × Nat) → Option Value
  | some (n, _, _) => if n ≤ len ∧ 0 < len then some (.pointer (some ⟨b, o, none⟩)) else none
  | none => none
/-- append of cells that are known -/
def mkApp (h : AH) (s : Value) : Option (Bool × Nat × Nat) → Option (Nat × Array Value) → Option (Value × AH)
  | some (_, m, by_), some (n, new) => match s with
        | .slice none 0 0 => if n = 0 then some (.slice none 0 0, h) else
            if (2 * n + 192) * by_ ≤ 2 ^ 48 ∧ n < 2 ^ 62 then some (.slice (some ⟨h.length, 0, none⟩) n n, h ++ [.cells new m true]) else none
        | .slice (some ⟨b, o, none⟩) len cap =>
            if n = 0 ∧ len ≤ cap then some (.slice (some ⟨b, o, none⟩) len cap, h) else
            match h[b]? with
            | some (.cells c es true) =>
              if o + len * m ≤ c.size ∧ es = m then
                if len + n ≤ cap then
                  if o + (len + n) * m ≤ c.size then some (.slice (some ⟨b, o, none⟩) (len + n) cap, h.set b (.cells (blit c (o + len * m) new.toList) es true)) else none
                else if (2 * (len + n) + 192) * by_ ≤ 2 ^ 48 ∧ len + n < 2 ^ 62 then
                  some (.slice (some ⟨h.length, 0, none⟩) (len + n) (len + n), h.set b .dead ++ [.cells (c.extract o (o + len * m) ++ new) m true]) else none
              else none
            | _ => none
        | _ => none
  | _, _ => none
/-- what is appended; the third: is its type none of the integers? -/
def mkSrc (h : AH) (x : Value) : Option (Bool × Nat × Nat) → Bool → Option (Nat × Array Value)
  | some (_, m, _), true => asource h m x
  | _, _ => none

section
variable {P : Program} {h : AH} {t u : TypeId} {b o len cap k : Nat} {x v : Value} {i n : Int} {ik jk : IntKind} {cs : Array Value} {lo hi : Option Value}

theorem tyc_spec {g : Bool} {m : Nat} (ht : tyc P t = some (g, m)) : ∃ d i, P.underlying t = some d ∧ P.info? t = some i ∧ isAggD d = g ∧ i.size = m := by
  unfold tyc at ht
  split at ht
  · rename_i d i hu hi
    simp only [Option.some.injEq, Prod.mk.injEq] at ht
    exact ⟨d, i, hu, hi, ht.1, ht.2⟩
  · cases ht

/-- The equations hold wherever the fact is there; each is taken as a rule with the fact's own name. -/
theorem aload_eq {f : Bool × Nat} (ht : tyc P t = some f) : aload P h t (.pointer (some ⟨b, o, none⟩)) = mkLoad o (some f) h[b]? := by
  obtain ⟨g, m⟩ := f
  obtain ⟨d, i, hu, hi, h1, h2⟩ := tyc_spec ht
  unfold aload aloadRow mkLoad
  simp only [hu, hi, h1, h2]
  cases hb : h[b]? with
  | none => cases g <;> rfl
  | some x => cases x <;> cases g <;> rfl
theorem astore_eq' {f : Bool × Nat} (ht : tyc P t = some f) : astore P h t (.pointer (some ⟨b, o, none⟩)) v = mkStore h b o v (some f) h[b]? := by
  obtain ⟨g, m⟩ := f
  obtain ⟨d, i, hu, hi, h1, h2⟩ := tyc_spec ht
  unfold astore mkStore
  simp only [hi, h2]
  cases hb : h[b]? with
  | none => rfl
  | some x =>
    cases x with
    | cells c es rw =>
      cases rw with
      | false => rfl
      | true =>
        simp only []
        by_cases hc : v.cells.size = m
        · subst hc; rfl
        · rw [if_neg (fun e => hc e.2.1), if_neg (fun e => hc e.2.1)]
    | _ => rfl
theorem afieldAddr_eq' {f : Nat × Bool × Nat} (hf : fld P t k = some f) : afieldAddr P t (.pointer (some ⟨b, o, none⟩)) k = mkFieldAddr b o (some f) := by
  obtain ⟨off, g, m⟩ := f
  obtain ⟨fields, fd, hu, hfd, ho, ht⟩ := fld_spec hf
  obtain ⟨d, i, hud, hi, h1, h2⟩ := tyc_spec ht
  simp only [afieldAddr, hu, hfd, hi]
  subst ho
  cases m with
  | zero => rw [if_pos h2]; rfl
  | succ m => rw [if_neg (by omega)]; rfl
theorem afield_eq' {f : Nat × Bool × Nat} (hf : fld P t k = some f) : afield P t (.agg cs) k = mkField cs (some f) := by
  obtain ⟨off, g, m⟩ := f
  obtain ⟨fields, fd, hu, hfd, ho, ht⟩ := fld_spec hf
  obtain ⟨d, i, hud, hi, h1, h2⟩ := tyc_spec ht
  subst ho
  simp only [afield, hu, hfd, apart, hud, hi, h1, h2]
  cases g <;> rfl
theorem aindex_eq' {f : Nat × Bool × Nat} (ha : arr P t = some f) : aindex P t (.agg cs) (.int ik i) = mkIndex cs i (some f) := by
  obtain ⟨m0, g, m⟩ := f
  obtain ⟨elem, ie, hu, ht, hie, hsz⟩ := arr_spec ha
  obtain ⟨d, j, hud, hj, h1, h2⟩ := tyc_spec ht
  simp only [aindex, hu, hie, apart, hud, h1, hsz]
  cases g <;> simp only [mkIndex] <;> rfl
theorem aindexA_eq' {f : Nat × Bool × Nat} (ha : arr P t = some f) : aindexAddr P t (.pointer (some ⟨b, o, none⟩)) (.int ik i) = mkIndexA b o i (some f) := by
  obtain ⟨m0, g, m⟩ := f
  obtain ⟨elem, ie, hu, ht, hie, hsz⟩ := arr_spec ha
  simp only [aindexAddr, hu, hie, hsz, mkIndexA]
theorem aindexS_eq' {f : Bool × Nat × Nat} (ha : slc P t = some f) : aindexAddr P t (.slice (some ⟨b, o, none⟩) len cap) (.int ik i) = mkIndexS b o len i (some f) := by
  obtain ⟨g, m, by_⟩ := f
  obtain ⟨elem, ie, hu, ht, hie, hsz, _⟩ := slc_spec ha
  simp only [aindexAddr, hu, hie, hsz, mkIndexS]
theorem alen_eq' {f : Bool × Nat × Nat} {a : Option Addr} (ha : slc P t = some f) : alen P h t (.slice a len cap) = some (.int .i64 len) := by
  obtain ⟨g, m, by_⟩ := f
  exact alen_slc ha
theorem alenA_eq' {f : Nat × Bool × Nat} (ha : arr P t = some f) : alen P h t x = some (.int .i64 f.1) := by
  obtain ⟨m0, g, m⟩ := f
  exact alen_arr ha
theorem alenT_eq' {s : ByteArray} (ha : isStr P t = true) : alen P h t (.string s) = some (.int .i64 s.size) := by
  unfold isStr at ha
  split at ha
  · rename_i hu; simp only [alen, hu]
  · cases ha
theorem aalloc_eq' {zc : Array Value} (hz : zeroCellsOf P t = some zc) : aalloc P h t = mkAlloc h (some zc) := aalloc_eq hz

theorem zero_plain {zc : Array Value} (hz : zeroCellsOf P t = some zc) : ∃ i z, P.info? t = some i ∧ i.zero = some z ∧ z.cells = zc ∧ plainB z = true ∧ storable z = true ∧ zc.size = i.size := by
  obtain ⟨i, z, hi, hz', hzc, hall, hsz, hpos⟩ := zeroCellsOf_spec hz
  have hp : plainB z = true ∧ storable z = true := by
    cases z with
    | agg cs => simp only [Value.cells] at hzc; subst hzc; exact ⟨hall, rfl⟩
    | _ =>
      simp only [Value.cells] at hzc
      subst hzc
      simp only [List.all_toArray, List.all_cons, List.all_nil, Bool.and_true] at hall
      first
        | (simp [plain1] at hall; done)
        | exact ⟨by simpa [plainB] using hall, rfl⟩
        | (refine ⟨by cases ‹Option _› <;> simp_all [plainB, plain1], rfl⟩)
  exact ⟨i, z, hi, hz', hzc, hp.1, hp.2, hsz⟩

theorem abuild_eq' {zc : Array Value} {pl : List (Nat × Nat)} {parts : List (Nat × Value)} (hz : zeroCellsOf P t = some zc) (hp : plc P t = some pl) : abuild P t parts = mkBuild parts (some zc) (some pl) := by
  obtain ⟨i, z, hi, hz', hzc, hp1, hp2, hsz⟩ := zero_plain hz
  unfold plc at hp
  split at hp
  · rename_i fields hu
    simp only [Option.map_eq_some_iff] at hp
    obtain ⟨places, hpl, rfl⟩ := hp
    simp only [abuild, hi, hz', hp1, hp2, Bool.and_self, if_true, hu, hpl, hzc, mkBuild, Array.getElem?_toList]
  · cases hp
theorem abuildA_eq' {zc : Array Value} {f : Nat × Bool × Nat} {parts : List (Nat × Value)} (hz : zeroCellsOf P t = some zc) (ha : arr P t = some f) : abuild P t parts = mkBuildA parts (some zc) (some f) := by
  obtain ⟨m0, g, m⟩ := f
  obtain ⟨i, z, hi, hz', hzc, hp1, hp2, hsz⟩ := zero_plain hz
  obtain ⟨elem, ie, hu, ht, hie, hsz⟩ := arr_spec ha
  simp only [abuild, hi, hz', hp1, hp2, Bool.and_self, if_true, hu, hie, hsz, hzc, mkBuildA]
theorem abuildS_eq' {zc : Array Value} {parts : List (Nat × Value)} (hz : slz P t = some zc) : abuildSlice P h t len parts = mkBuildS h len parts (some zc) := by
  unfold slz at hz
  split at hz
  · rename_i elem hu
    simp only [abuildSlice, hu, hz, mkBuildS]
    split
    · rfl
    · rfl
  · cases hz
theorem aconvI_eq' (hd : intk P u = some jk) (hs : (tyc P t).isSome = true) : aconvert P h t u (.int ik n) = some (.int jk (jk.wrap n), h) := by
  obtain ⟨⟨g, m⟩, hs⟩ := Option.isSome_iff_exists.1 hs
  obtain ⟨d, i, hu, _⟩ := tyc_spec hs
  unfold intk at hd
  split at hd
  · rename_i k' hk
    cases hd
    simp only [aconvert, hu, hk]
  · cases hd
theorem asliceS_eq' {f : Bool × Nat × Nat} (ha : slc P t = some f) : aslice P h t (.slice (some ⟨b, o, none⟩) len cap) lo hi = mkSliceS b o len cap lo hi (some f) h[b]? := by
  obtain ⟨g, m, by_⟩ := f
  obtain ⟨elem, ie, hu, ht, hie, hsz, _⟩ := slc_spec ha
  simp only [aslice, hu, hie, asliceS, hsz]
  cases hb : h[b]? with
  | none => rfl
  | some x => cases x <;> rfl
theorem asliceA_eq' {f : Nat × Bool × Nat} (ha : arr P t = some f) : aslice P h t (.pointer (some ⟨b, o, none⟩)) lo hi = mkSliceA b o lo hi (some f) := by
  obtain ⟨m0, g, m⟩ := f
  obtain ⟨elem, ie, hu, ht, hie, hsz⟩ := arr_spec ha
  simp only [aslice, hu, hie, hsz, mkSliceA]
  rfl
theorem asliceN_eq' {f : Bool × Nat × Nat} (ha : slc P t = some f) : aslice P h t (.slice none 0 0) lo hi = (abounds 0 0 lo hi).map fun _ => .slice none 0 0 := by
  obtain ⟨g, m, by_⟩ := f
  obtain ⟨elem, ie, hu, ht, hie, hsz, _⟩ := slc_spec ha
  simp only [aslice, hu, hie]
  cases abounds 0 0 lo hi <;> rfl
theorem asliceT_eq' {s : ByteArray} (ha : isStr P t = true) : aslice P h t (.string s) lo hi = mkSliceT s lo hi true := by
  unfold isStr at ha
  split at ha
  · rename_i hu
    simp only [aslice, hu, mkSliceT]
    rfl
  · cases ha
theorem amake_eq' {f : Bool × Nat × Nat} {zc : Array Value} (ha : slc P t = some f) (hz : slz P t = some zc) : amakeSlice P h t (.int .i64 i) (.int .i64 n) = mkMake h i n (some f) (some zc) := by
  obtain ⟨g, m, by_⟩ := f
  obtain ⟨elem, ie, hu, ht, hie, hsz, hby⟩ := slc_spec ha
  unfold slz at hz
  rw [hu] at hz
  simp only at hz
  obtain ⟨j, z, hj, _, _, _, hsz2, _⟩ := zeroCellsOf_spec hz
  have hji : j = ie := by rw [hj] at hie; exact Option.some.inj hie
  subst hji
  have : zc.size = m := hsz2.trans hsz
  simp only [amakeSlice, hu, hz, hie, hby, mkMake, this]
theorem aarr_eq' {f : Nat × Bool × Nat} (ha : arr P t = some f) : aarrayPtr P t (.slice (some ⟨b, o, none⟩) len cap) = mkArrPtr b o len (some f) := by
  obtain ⟨m0, g, m⟩ := f
  obtain ⟨elem, ie, hu, _⟩ := arr_spec ha
  simp only [aarrayPtr, hu, mkArrPtr]
theorem aappend_eq' {f : Bool × Nat × Nat} {zc : Array Value} {s : Value} (ha : slc P t = some f) (hz : slz P t = some zc) (hn : nint P u = true) : aappend P h t u s x = mkApp h s (some f) (mkSrc h x (some f) true) := by
  obtain ⟨g, m, by_⟩ := f
  obtain ⟨elem, ie, hu, ht, hie, hsz, hby⟩ := slc_spec ha
  unfold slz at hz
  rw [hu] at hz
  simp only at hz
  have : aappended P h elem u m x = asource h m x := by
    unfold nint at hn
    unfold aappended
    split at hn
    · cases hn
    · rename_i d hd hu2
      rw [hu2]
      cases d <;> first | rfl | (exfalso; exact hd _ rfl)
    · cases hn
  simp only [aappend, hu, hie, hz, hsz, this, mkSrc, hby, mkApp]
  cases asource h m x with
  | none => rfl
  | some p =>
    obtain ⟨n, new⟩ := p
    rfl
end
end Go.Am
