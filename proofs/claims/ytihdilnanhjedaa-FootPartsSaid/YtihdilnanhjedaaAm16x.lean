import Derived.Test.YtihdilnanhjedaaAm13x
set_option linter.unusedVariables false
set_option linter.unusedSimpArgs false
/- Equations, third part: each operation on memory as a function of closed facts. -/
namespace Go.Am
open Go

/-- a struct's fields: where, how many cells -/
def plc (P : Program) (t : TypeId) : Option (List (Nat × Nat)) :=
  match P.underlying t with
  | some (.struct fields) => (pureRun P (fields.mapM fun f => do pure (f.offset, ← sizeOf f.type) : Sem _)).map (·.toList)
  | _ => none
/-- the zero cells of a slice's, an array's elements -/
def slz (P : Program) (t : TypeId) : Option (Array Value) :=
  match P.underlying t with
  | some (.slice elem) => zeroCellsOf P elem
  | _ => none
def intk (P : Program) (t : TypeId) : Option IntKind :=
  match P.underlying t with
  | some (.int k) => some k
  | _ => none
def isStr (P : Program) (t : TypeId) : Bool := match P.underlying t with | some .string => true | _ => false
/-- there is such a type, and it is no integer -/
def nint (P : Program) (t : TypeId) : Bool := match P.underlying t with | some (.int _) => false | some _ => true | none => false

def mkLoad (o : Nat) : Option (Bool × Nat) → Option AObj → Option Value
  | some (true, n), some (.cells c _ _) => if o + n ≤ c.size then some (.agg (c.extract o (o + n))) else none
  | some (false, _), some (.cells c _ _) => c[o]?
  | _, _ => none
def mkStore (h : AH) (b o : Nat) (v : Value) : Option (Bool × Nat) → Option AObj → Option AH
  | some (_, n), some (.cells c es true) => if storable v = true ∧ v.cells.size = n ∧ o + n ≤ c.size then some (h.set b (.cells (blit c o v.cells.toList) es true)) else none
  | _, _ => none
def mkFieldAddr (b o : Nat) : Option (Nat × Bool × Nat) → Option Value
  | some (off, _, n + 1) => some (.pointer (some ⟨b, o + off, none⟩))
  | _ => none
def mkField (cs : Array Value) : Option (Nat × Bool × Nat) → Option Value
  | some (off, true, n) => if off + n ≤ cs.size then some (.agg (cs.extract off (off + n))) else none
  | some (off, false, _) => cs[off]?
  | none => none
def mkIndex (cs : Array Value) (i : Int) : Option (Nat × Bool × Nat) → Option Value
  | some (n, true, m) => if 0 ≤ i ∧ i < n then (if i.toNat * m + m ≤ cs.size then some (.agg (cs.extract (i.toNat * m) (i.toNat * m + m))) else none) else none
  | some (n, false, m) => if 0 ≤ i ∧ i < n then cs[i.toNat * m]? else none
  | none => none
def mkIndexA (b o : Nat) (i : Int) : Option (Nat × Bool × Nat) → Option Value
  | some (n, _, m) => if 0 ≤ i ∧ i < n then some (.pointer (some ⟨b, o + i.toNat * m, none⟩)) else none
  | none => none
def mkIndexS (b o len : Nat) (i : Int) : Option (Bool × Nat × Nat) → Option Value
  | some (_, m, _) => if 0 ≤ i ∧ i < len then some (.pointer (some ⟨b, o + i.toNat * m, none⟩)) else none
  | none => none
def mkLen (n : Nat) : Option (Bool × Nat × Nat) → Option Value
  | some _ => some (.int .i64 n)
  | none => none
def mkAlloc (h : AH) : Option (Array Value) → Option (Value × AH)
  | some zc => some (.pointer (some ⟨h.length, 0, none⟩), h ++ [.cells zc 0 true])
  | none => none
def mkBuild (parts : List (Nat × Value)) : Option (Array Value) → Option (List (Nat × Nat)) → Option Value
  | some zc, some pl => (afill (fun i => pl[i]?) zc parts).map .agg
  | _, _ => none
def mkBuildA (parts : List (Nat × Value)) : Option (Array Value) → Option (Nat × Bool × Nat) → Option Value
  | some zc, some (_, _, m) => (afill (fun i => some (i * m, m)) zc parts).map .agg
  | _, _ => none
def mkBuildS (h : AH) (len : Nat) (parts : List (Nat × Value)) : Option (Array Value) → Option (Value × AH)
  | some zc => if len * zc.size ≤ 2 ^ 24 then
        match afill (fun i => some (i * zc.size, zc.size)) (zeros zc (len * zc.size)) parts with
        | some cells => some (.slice (some ⟨h.length, 0, none⟩) len len, h ++ [.cells cells zc.size true])
        | none => none
      else none
  | none => none
def mkConvI (h : AH) (n : Int) : Option (Bool × Nat) → Option IntKind → Option (Value × AH)
  | some _, some k => some (.int k (k.wrap n), h)
  | _, _ => none
def mkSliceS (b o len cap : Nat) (lo hi : Option Value) : Option (Bool × Nat × Nat) → Option AObj → Option Value
  | some (_, m, _), some (.cells _ es _) => if (es = 0 ∨ es = m) ∧ es < tagN then
      match abounds len cap lo hi with
      | some (l, hh) => if hh ≤ cap ∧ len ≤ cap then some (.slice (some ⟨b, o + l * m, none⟩) (hh - l) (cap - l)) else none
      | none => none
    else none
  | _, _ => none
def mkSliceA (b o : Nat) (lo hi : Option Value) : Option (Nat × Bool × Nat) → Option Value
  | some (n, _, m) => match abounds n n lo hi with
      | some (l, hh) => if l = n then none else some (.slice (some ⟨b, o + l * m, none⟩) (hh - l) (n - l))
      | none => none
  | none => none
def mkSliceT (s : ByteArray) (lo hi : Option Value) : Bool → Option Value
  | true => match abounds s.size s.size lo hi with
    | some (l, hh) => some (.string (s.extract l hh))
    | none => none
  | false => none
def mkMake (h : AH) (len cap : Int) : Option (Bool × Nat × Nat) → Option (Array Value) → Option (Value × AH)
  | some (_, m, by_), some zc => if 0 ≤ len ∧ len ≤ cap ∧ cap < 2 ^ 62 ∧ (by_ : Int) * cap ≤ 2 ^ 48 then
        some (.slice (some ⟨h.length, 0, none⟩) len.toNat cap.toNat, h ++ [.cells (zeros zc (cap.toNat * m)) m true]) else none
  | _, _ => none
def mkArrPtr (b o len : Nat) : Option (Nat × Bool × Nat) → Option Value
  | some (n, _, _) => if n ≤ len ∧ 0 < len then some (.pointer (some ⟨b, o, none⟩)) else none
  | none => none
/-- append of cells that are known -/
def mkApp (h : AH) (s : Value) : Option (Bool × Nat × Nat) → Option (Nat × Array Value) → Option (Value × AH)
  | some (_, m, by_), some (n, new) => match s with
        | .slice none 0 0 => if n = 0 then some (.slice none 0 0, h) else
            if (2 * n + 192) * by_ ≤ 2 ^ 48 ∧ n < 2 ^ 62 then some (.slice (some ⟨h.length, 0, none⟩) n n, h ++ [.cells new m true]) else none
        | .slice (some ⟨b, o, none⟩) len cap =>
            if n = 0 ∧ len ≤ cap then some (.slice (some ⟨b, o, none⟩) len cap, h) else
            match h[b]? with
            | some (.cells c es true) =>
              if o + len * m ≤ c.size ∧ es = m then
                if len + n ≤ cap then
                  if o + (len + n) * m ≤ c.size then some (.slice (some ⟨b, o, none⟩) (len + n) cap, h.set b (.cells (blit c (o + len * m) new.toList) es true)) else none
                else if (2 * (len + n) + 192) * by_ ≤ 2 ^ 48 ∧ len + n < 2 ^ 62 then
                  some (.slice (some ⟨h.length, 0, none⟩) (len + n) (len + n), h.set b .dead ++ [.cells (c.extract o (o + len * m) ++ new) m true]) else none
              else none
            | _ => none
        | _ => none
  | _, _ => none
/-- the first, or else the second -/
def orT (a b : Option (Value × AH)) : Option (Value × AH) :=
  match a with
  | some r => some r
  | none => b
theorem orT_some {r : Value × AH} {b : Option (Value × AH)} : orT (some r) b = some r := rfl
theorem orT_none {b : Option (Value × AH)} : orT none b = b := rfl
/-- append, where the row bears its kind -/
def aappendT (P : Program) (h : AH) (sT xT : TypeId) (s x : Value) : Option (Value × AH) := aappend P h sT xT s x
/-- what is appended; the third: is its type none of the integers? -/
def mkSrc (h : AH) (x : Value) : Option (Bool × Nat × Nat) → Bool → Option (Nat × Array Value)
  | some (_, m, _), true => asource h m x
  | _, _ => none

section
variable {P : Program} {h : AH} {t u : TypeId} {b o len cap k : Nat} {x v : Value} {i n : Int} {ik jk : IntKind} {cs : Array Value} {lo hi : Option Value}

theorem tyc_spec {g : Bool} {m : Nat} (ht : tyc P t = some (g, m)) : ∃ d i, P.underlying t = some d ∧ P.info? t = some i ∧ isAggD d = g ∧ i.size = m := by
  unfold tyc at ht
  split at ht
  · rename_i d i hu hi
    simp only [Option.some.injEq, Prod.mk.injEq] at ht
    exact ⟨d, i, hu, hi, ht.1, ht.2⟩
  · cases ht

/-- The equations hold wherever the fact is there; each is taken as a rule with the fact's own name. -/
theorem aload_eq {f : Bool × Nat} (ht : tyc P t = some f) : aload P h t (.pointer (some ⟨b, o, none⟩)) = mkLoad o (some f) h[b]? := by
  obtain ⟨g, m⟩ := f
  obtain ⟨d, i, hu, hi, h1, h2⟩ := tyc_spec ht
  unfold aload aloadRow mkLoad
  simp only [hu, hi, h1, h2]
  cases hb : h[b]? with
  | none => cases g <;> rfl
  | some x => cases x <;> cases g <;> rfl
theorem astore_eq' {f : Bool × Nat} (ht : tyc P t = some f) : astore P h t (.pointer (some ⟨b, o, none⟩)) v = mkStore h b o v (some f) h[b]? := by
  obtain ⟨g, m⟩ := f
  obtain ⟨d, i, hu, hi, h1, h2⟩ := tyc_spec ht
  unfold astore mkStore
  simp only [hi, h2]
  cases hb : h[b]? with
  | none => rfl
  | some x =>
    cases x with
    | cells c es rw =>
      cases rw with
      | false => rfl
      | true =>
        simp only []
        by_cases hc : v.cells.size = m
        · subst hc; rfl
        · rw [if_neg (fun e => hc e.2.1), if_neg (fun e => hc e.2.1)]
    | _ => rfl
theorem afieldAddr_eq' {f : Nat × Bool × Nat} (hf : fld P t k = some f) : afieldAddr P t (.pointer (some ⟨b, o, none⟩)) k = mkFieldAddr b o (some f) := by
  obtain ⟨off, g, m⟩ := f
  obtain ⟨fields, fd, hu, hfd, ho, ht⟩ := fld_spec hf
  obtain ⟨d, i, hud, hi, h1, h2⟩ := tyc_spec ht
  simp only [afieldAddr, hu, hfd, hi]
  subst ho
  cases m with
  | zero => rw [if_pos h2]; rfl
  | succ m => rw [if_neg (by omega)]; rfl
theorem afield_eq' {f : Nat × Bool × Nat} (hf : fld P t k = some f) : afield P t (.agg cs) k = mkField cs (some f) := by
  obtain ⟨off, g, m⟩ := f
  obtain ⟨fields, fd, hu, hfd, ho, ht⟩ := fld_spec hf
  obtain ⟨d, i, hud, hi, h1, h2⟩ := tyc_spec ht
  subst ho
  simp only [afield, hu, hfd, apart, hud, hi, h1, h2]
  cases g <;> rfl
theorem aindex_eq' {f : Nat × Bool × Nat} (ha : arr P t = some f) : aindex P t (.agg cs) (.int ik i) = mkIndex cs i (some f) := by
  obtain ⟨m0, g, m⟩ := f
  obtain ⟨elem, ie, hu, ht, hie, hsz⟩ := arr_spec ha
  obtain ⟨d, j, hud, hj, h1, h2⟩ := tyc_spec ht
  simp only [aindex, hu, hie, apart, hud, h1, hsz]
  cases g <;> simp only [mkIndex] <;> rfl
theorem aindexA_eq' {f : Nat × Bool × Nat} (ha : arr P t = some f) : aindexAddr P t (.pointer (some ⟨b, o, none⟩)) (.int ik i) = mkIndexA b o i (some f) := by
  obtain ⟨m0, g, m⟩ := f
  obtain ⟨elem, ie, hu, ht, hie, hsz⟩ := arr_spec ha
  simp only [aindexAddr, hu, hie, hsz, mkIndexA]
theorem aindexS_eq' {f : Bool × Nat × Nat} (ha : slc P t = some f) : aindexAddr P t (.slice (some ⟨b, o, none⟩) len cap) (.int ik i) = mkIndexS b o len i (some f) := by
  obtain ⟨g, m, by_⟩ := f
  obtain ⟨elem, ie, hu, ht, hie, hsz, _⟩ := slc_spec ha
  simp only [aindexAddr, hu, hie, hsz, mkIndexS]
theorem alen_eq' {f : Bool × Nat × Nat} {a : Option Addr} (ha : slc P t = some f) : alen P h t (.slice a len cap) = some (.int .i64 len) := by
  obtain ⟨g, m, by_⟩ := f
  exact alen_slc ha
theorem alenA_eq' {f : Nat × Bool × Nat} (ha : arr P t = some f) : alen P h t x = some (.int .i64 f.1) := by
  obtain ⟨m0, g, m⟩ := f
  exact alen_arr ha
theorem alenT_eq' {s : ByteArray} (ha : isStr P t = true) : alen P h t (.string s) = some (.int .i64 s.size) := by
  unfold isStr at ha
  split at ha
  · rename_i hu; simp only [alen, hu]
  · cases ha
theorem aalloc_eq' {zc : Array Value} (hz : zeroCellsOf P t = some zc) : aalloc P h t = mkAlloc h (some zc) := aalloc_eq hz

theorem zero_plain {zc : Array Value} (hz : zeroCellsOf P t = some zc) : ∃ i z, P.info? t = some i ∧ i.zero = some z ∧ z.cells = zc ∧ plainB z = true ∧ storable z = true ∧ zc.size = i.size := by
  obtain ⟨i, z, hi, hz', hzc, hall, hsz, hpos⟩ := zeroCellsOf_spec hz
  have hp : plainB z = true ∧ storable z = true := by
    cases z with
    | agg cs => simp only [Value.cells] at hzc; subst hzc; exact ⟨hall, rfl⟩
    | _ =>
      simp only [Value.cells] at hzc
      subst hzc
      simp only [List.all_toArray, List.all_cons, List.all_nil, Bool.and_true] at hall
      first
        | (simp [plain1] at hall; done)
        | exact ⟨by simpa [plainB] using hall, rfl⟩
        | (refine ⟨by cases ‹Option _› <;> simp_all [plainB, plain1], rfl⟩)
  exact ⟨i, z, hi, hz', hzc, hp.1, hp.2, hsz⟩

theorem abuild_eq' {zc : Array Value} {pl : List (Nat × Nat)} {parts : List (Nat × Value)} (hz : zeroCellsOf P t = some zc) (hp : plc P t = some pl) : abuild P t parts = mkBuild parts (some zc) (some pl) := by
  obtain ⟨i, z, hi, hz', hzc, hp1, hp2, hsz⟩ := zero_plain hz
  unfold plc at hp
  split at hp
  · rename_i fields hu
    simp only [Option.map_eq_some_iff] at hp
    obtain ⟨places, hpl, rfl⟩ := hp
    simp only [abuild, hi, hz', hp1, hp2, Bool.and_self, if_true, hu, hpl, hzc, mkBuild, Array.getElem?_toList]
  · cases hp
theorem abuildA_eq' {zc : Array Value} {f : Nat × Bool × Nat} {parts : List (Nat × Value)} (hz : zeroCellsOf P t = some zc) (ha : arr P t = some f) : abuild P t parts = mkBuildA parts (some zc) (some f) := by
  obtain ⟨m0, g, m⟩ := f
  obtain ⟨i, z, hi, hz', hzc, hp1, hp2, hsz⟩ := zero_plain hz
  obtain ⟨elem, ie, hu, ht, hie, hsz⟩ := arr_spec ha
  simp only [abuild, hi, hz', hp1, hp2, Bool.and_self, if_true, hu, hie, hsz, hzc, mkBuildA]
theorem abuildS_eq' {zc : Array Value} {parts : List (Nat × Value)} (hz : slz P t = some zc) : abuildSlice P h t len parts = mkBuildS h len parts (some zc) := by
  unfold slz at hz
  split at hz
  · rename_i elem hu
    simp only [abuildSlice, hu, hz, mkBuildS]
    split
    · rfl
    · rfl
  · cases hz
theorem aconvI_eq' (hd : intk P u = some jk) (hs : (tyc P t).isSome = true) : aconvert P h t u (.int ik n) = some (.int jk (jk.wrap n), h) := by
  obtain ⟨⟨g, m⟩, hs⟩ := Option.isSome_iff_exists.1 hs
  obtain ⟨d, i, hu, _⟩ := tyc_spec hs
  unfold intk at hd
  split at hd
  · rename_i k' hk
    cases hd
    simp only [aconvert, hu, hk]
  · cases hd
theorem asliceS_eq' {f : Bool × Nat × Nat} (ha : slc P t = some f) : aslice P h t (.slice (some ⟨b, o, none⟩) len cap) lo hi = mkSliceS b o len cap lo hi (some f) h[b]? := by
  obtain ⟨g, m, by_⟩ := f
  obtain ⟨elem, ie, hu, ht, hie, hsz, _⟩ := slc_spec ha
  simp only [aslice, hu, hie, asliceS, hsz]
  cases hb : h[b]? with
  | none => rfl
  | some x => cases x <;> rfl
theorem asliceA_eq' {f : Nat × Bool × Nat} (ha : arr P t = some f) : aslice P h t (.pointer (some ⟨b, o, none⟩)) lo hi = mkSliceA b o lo hi (some f) := by
  obtain ⟨m0, g, m⟩ := f
  obtain ⟨elem, ie, hu, ht, hie, hsz⟩ := arr_spec ha
  simp only [aslice, hu, hie, hsz, mkSliceA]
  rfl
theorem asliceN_eq' {f : Bool × Nat × Nat} (ha : slc P t = some f) : aslice P h t (.slice none 0 0) lo hi = (abounds 0 0 lo hi).map fun _ => .slice none 0 0 := by
  obtain ⟨g, m, by_⟩ := f
  obtain ⟨elem, ie, hu, ht, hie, hsz, _⟩ := slc_spec ha
  simp only [aslice, hu, hie]
  cases abounds 0 0 lo hi <;> rfl
theorem asliceT_eq' {s : ByteArray} (ha : isStr P t = true) : aslice P h t (.string s) lo hi = mkSliceT s lo hi true := by
  unfold isStr at ha
  split at ha
  · rename_i hu
    simp only [aslice, hu, mkSliceT]
    rfl
  · cases ha
theorem amake_eq' {f : Bool × Nat × Nat} {zc : Array Value} (ha : slc P t = some f) (hz : slz P t = some zc) : amakeSlice P h t (.int .i64 i) (.int .i64 n) = mkMake h i n (some f) (some zc) := by
  obtain ⟨g, m, by_⟩ := f
  obtain ⟨elem, ie, hu, ht, hie, hsz, hby⟩ := slc_spec ha
  unfold slz at hz
  rw [hu] at hz
  simp only at hz
  obtain ⟨j, z, hj, _, _, _, hsz2, _⟩ := zeroCellsOf_spec hz
  have hji : j = ie := by rw [hj] at hie; exact Option.some.inj hie
  subst hji
  have : zc.size = m := hsz2.trans hsz
  simp only [amakeSlice, hu, hz, hie, hby, mkMake, this]
theorem aarr_eq' {f : Nat × Bool × Nat} (ha : arr P t = some f) : aarrayPtr P t (.slice (some ⟨b, o, none⟩) len cap) = mkArrPtr b o len (some f) := by
  obtain ⟨m0, g, m⟩ := f
  obtain ⟨elem, ie, hu, _⟩ := arr_spec ha
  simp only [aarrayPtr, hu, mkArrPtr]
theorem aappend_eq' {f : Bool × Nat × Nat} {zc : Array Value} {s : Value} (ha : slc P t = some f) (hz : slz P t = some zc) (hn : nint P u = true) : aappend P h t u s x = orT (mkApp h s (some f) (mkSrc h x (some f) true)) (aappendT P h t u s x) := by
  obtain ⟨g, m, by_⟩ := f
  obtain ⟨elem, ie, hu, ht, hie, hsz, hby⟩ := slc_spec ha
  unfold slz at hz
  rw [hu] at hz
  simp only at hz
  have : aappended P h elem u m x = asource h m x := by
    unfold nint at hn
    unfold aappended
    split at hn
    · cases hn
    · rename_i d hd hu2
      rw [hu2]
      cases d <;> first | rfl | (exfalso; exact hd _ rfl)
    · cases hn
  have hmt : m < tagN := by
    have h1 := (zeroCellsOf_tag hz).1
    obtain ⟨i2, z2, h2, _, _, _, h3, _⟩ := zeroCellsOf_spec hz
    rw [hie] at h2; cases h2
    omega
  unfold orT
  split
  · rename_i r hr
    simp only [mkSrc, mkApp] at hr
    simp only [aappend, hu, hie, hz, hsz, this, hby]
    split at hr
    · rename_i m' by' n' new' e1 e2
      simp only [Option.some.injEq, Prod.mk.injEq] at e1
      obtain ⟨rfl, rfl, rfl⟩ := e1
      simp only [e2]
      split at hr
      · exact hr
      · rename_i b o len cap
        simp only
        by_cases hc : n' = 0 ∧ len ≤ cap
        · rw [if_pos hc] at hr ⊢; exact hr
        · rw [if_neg hc] at hr ⊢
          cases hb : h[b]? with
          | none => rw [hb] at hr; cases hr
          | some x => cases x with
            | cells c es rw' => cases rw' with
              | true =>
                rw [hb] at hr
                simp only at hr ⊢
                by_cases hq : o + len * m ≤ c.size ∧ es = m
                · rw [if_pos hq] at hr
                  obtain ⟨hq1, rfl⟩ := hq
                  rw [if_pos ⟨hq1, .inl ⟨rfl, hmt⟩⟩]
                  exact hr
                · rw [if_neg hq] at hr; cases hr
              | false => rw [hb] at hr; cases hr
            | _ => rw [hb] at hr; cases hr
      · cases hr
    · cases hr
  · rfl
end
end Go.Am
set_option linter.unusedVariables false
set_option linter.unusedSimpArgs false
/- Closed calls, reckoned. -/
namespace Go.Am
open Go

inductive AEx where
  | normal
  | exit (id : Nat)
  | ret

def AEx.ex : AEx → Exit
  | .normal => .normal
  | .exit id => .exit id
  | .ret => .ret

/-- below which block nothing was written, by one operation's own doing -/
def lowOf (o : Op) (ρ : Operand → Value) : Option Nat :=
  match o with
  | .store _ a _ => match ρ a with | .pointer (some a) => some a.block | _ => some 0
  | .call { callee := .builtin .append, args, .. } => match args[0]? with
    | some x => match ρ x with | .slice (some a) _ _ => some a.block | _ => none
    | none => some 0
  | .call { callee := .builtin .copy, args, .. } => match args[0]? with
    | some x => match ρ x with | .slice (some a) _ _ => some a.block | _ => none
    | none => some 0
  | .call { callee := .builtin .unsafeString, args, .. } => match args[0]? with
    | some x => match ρ x with | .pointer (some a) => some a.block | _ => none
    | none => some 0
  | .mapUpdate _ m _ _ => match ρ m with | .map (some b) => some b | _ => some 0
  | .insert _ m _ _ => match ρ m with | .map (some b) => some b | _ => some 0
  | .mapEntry _ m _ => match ρ m with | .map (some b) => some b | _ => some 0
  | .entryStore _ m _ _ => match ρ m with | .map (some b) => some b | _ => some 0
  | .call { callee := .builtin .delete, args, .. } => match args[0]? with
    | some x => match ρ x with | .map (some b) => some b | _ => some 0
    | none => some 0
  | _ => none

def minLow (a : Nat) : Option Nat → Nat
  | some b => Nat.min a b
  | none => a

section
variable (P : Program) (call : FuncId → Array Value → AH → Option (Value × AH × Nat))

/-- operations in turn; the third: below which block nothing was written -/
def runOps (ops : Array Oper) : List Oper → Array Value → AH → Nat → Option (Array Value × AH × Nat)
  | [], a, h, lo => some (a, h, lo)
  | o :: rest, a, h, lo =>
    match gval ops a o with
    | some false => runOps ops rest (aput a o.dst undef) h lo
    | some true => match aop P (aeval P a) h o with
      | some (.val v h1) => runOps ops rest (aput a o.dst v) h1 (minLow lo (lowOf o.op (aeval P a)))
      | some (.skip h1) => runOps ops rest (aput a o.dst undef) h1 (minLow lo (lowOf o.op (aeval P a)))
      | some (.enter F args) => match call F args h with
        | some (v, h1, l1) => runOps ops rest (aput a o.dst v) h1 (Nat.min lo l1)
        | none => none
      | _ => none
    | none => none

/-- operations of a region that draws -/
def runDraw (ops : Array Oper) (H0 : AH) : List Oper → Array Value → AH → Nat → Option (Array Value × AH × Nat)
  | [], a, h, lo => some (a, h, lo)
  | o :: rest, a, h, lo =>
    match gval ops a o with
    | some false => runDraw ops H0 rest (aput a o.dst undef) h lo
    | some true =>
      if isV P o.op then (match aop P (aeval P a) H0 o with
        | some (.val v _) => runDraw ops H0 rest (aput a o.dst v) h lo
        | _ => none)
      else match aop P (aeval P a) h o with
      | some (.val v h1) => if isWriter o.op && rest.all (fun x => !isLoad x.op && (isV P x.op || isWriter x.op)) then runDraw ops H0 rest (aput a o.dst v) h1 (minLow lo (lowOf o.op (aeval P a)))
          else if isWriter o.op then none else runDraw ops H0 rest (aput a o.dst v) h1 lo
      | some (.skip h1) => if isWriter o.op && rest.all (fun x => !isLoad x.op && (isV P x.op || isWriter x.op)) then runDraw ops H0 rest (aput a o.dst undef) h1 (minLow lo (lowOf o.op (aeval P a))) else none
      | some (.enter F args) => match call F args h with
        | some (v, h1, l1) => if H0.length ≤ l1 ∧ hasAlloc ops = false then runDraw ops H0 rest (aput a o.dst v) h1 (Nat.min lo l1) else none
        | none => none
      | _ => none
    | none => none

def iter (body : Array Value → AH → Nat → Option (AEx × Array Value × AH × Nat)) : Nat → Array Value → AH → Nat → Option (AEx × Array Value × AH × Nat)
  | 0, _, _, _ => none
  | k + 1, a, h, lo => match body a h lo with
    | some (.normal, a1, h1, l1) => iter body k a1 h1 l1
    | r => r

def runCode (n : Nat) : Code → Array Value → AH → Nat → Option (AEx × Array Value × AH × Nat)
  | .skip, a, h, lo => some (.normal, a, h, lo)
  | .label _, a, h, lo => some (.normal, a, h, lo)
  | .region _ ops false, a, h, lo => (runOps P call ops ops.toList a h lo).map fun (a, h, lo) => (.normal, a, h, lo)
  | .region _ ops true, a, h, lo => if okDraw P ops.toList && P.follows .mixedOrders then (runDraw P call ops h ops.toList a h lo).map fun (a, h, lo) => (.normal, a, h, lo) else none
  | .seq x y, a, h, lo => match runCode n x a h lo with
    | some (.normal, a1, h1, l1) => runCode n y a1 h1 l1
    | r => r
  | .cond c x y, a, h, lo => match aeval P a c with
    | .bool true => runCode n x a h lo
    | .bool false => runCode n y a h lo
    | _ => none
  | .block id c, a, h, lo => match runCode n c a h lo with
    | some (.exit id', a1, h1, l1) => if id' = id then some (.normal, a1, h1, l1) else some (.exit id', a1, h1, l1)
    | r => r
  | .exit id, a, h, lo => some (.exit id, a, h, lo)
  | .ret, a, h, lo => some (.ret, a, h, lo)
  | .loop c, a, h, lo => iter (runCode n c) n a h lo
  | _, _, _, _ => none
end

/-- a call, reckoned: its value, its heap, below which block nothing was written -/
def arun (P : Program) : Nat → FuncId → Array Value → AH → Option (Value × AH × Nat)
  | 0, _, _, _ => none
  | n + 1, F, args, h => match P.funcs[F]? with
    | some fn => match fn.body with
      | some c => match runCode P (arun P n) n c (args ++ Array.replicate (fn.ntmps - args.size) undef) h h.length with
        | some (e, a, h1, lo) => match e with
          | .exit _ => none
          | _ => match aresults P fn a h1 with
            | some v => if plainB v && Nat.ble h.length lo then some (v, h, h.length) else some (v, h1, lo)
            | none => none
        | none => none
      | none => none
    | none => none

/-! what it says -/
/-- nothing below was written -/
def Low (h h1 : AH) (lo : Nat) : Prop := h.length ≤ h1.length ∧ ∀ b, b < lo → b < h.length → h1[b]? = h[b]?

theorem Low.refl (h : AH) (lo : Nat) : Low h h lo := ⟨Nat.le_refl _, fun _ _ _ => rfl⟩
theorem Low.trans {h h1 h2 : AH} {l1 l2 lo : Nat} (a : Low h h1 l1) (b : Low h1 h2 l2) (e1 : lo ≤ l1) (e2 : lo ≤ l2) : Low h h2 lo :=
  ⟨Nat.le_trans a.1 b.1, fun k hk hl => (b.2 k (by omega) (Nat.lt_of_lt_of_le hl a.1)).trans (a.2 k (by omega) hl)⟩
theorem Low.append (h l : AH) (lo : Nat) : Low h (h ++ l) lo := ⟨by simp, fun b _ hb => List.getElem?_append_left hb⟩
theorem Low.set (h : AH) (b : Nat) (o : AObj) : Low h (h.set b o) b := ⟨by simp, fun k hk _ => List.getElem?_set_ne (by omega)⟩

def LowOk (h : AH) (lo : Nat) (op : Op) (ρ : Operand → Value) : ARes → Prop
  | .val _ h1 => Low h h1 (minLow lo (lowOf op ρ)) ∧ (isWriter op = false → Low h h1 h.length)
  | .skip h1 => Low h h1 (minLow lo (lowOf op ρ)) ∧ (isWriter op = false → Low h h1 h.length)
  | .enter _ _ => True
  | .any _ => True

theorem aop_low {P : Program} {ρ : Operand → Value} {h : AH} {o : Oper} {r : ARes} (ha : aop P ρ h o = some r) (lo : Nat) : LowOk h lo o.op ρ r := by
  obtain ⟨dst, op, type, pos, after, guard⟩ := o
  have same : ∀ (x : Option Value), aval h x = some r → LowOk h lo op ρ r := by
    intro x hx
    obtain ⟨v, _, rfl⟩ := aval_some hx
    exact ⟨Low.refl _ _, fun _ => Low.refl _ _⟩
  have app : ∀ (v : Value) (l : AH), r = .val v (h ++ l) → LowOk h lo op ρ r := by
    intro v l hr
    subst hr
    exact ⟨Low.append _ _ _, fun _ => Low.append _ _ _⟩
  show LowOk h lo op ρ r
  unfold aop at ha
  cases op <;> simp only at ha <;> (try (simp only [amore] at ha; cases ha; done)) <;> (try exact same _ ha)
  case move x => cases ha; exact ⟨Low.refl _ _, fun _ => Low.refl _ _⟩
  case assign x => cases ha; exact ⟨Low.refl _ _, fun _ => Low.refl _ _⟩
  case pick c a b => split at ha <;> cases ha; exact ⟨Low.refl _ _, fun _ => Low.refl _ _⟩
  case alloc e =>
    obtain ⟨v, h2, h1, rfl⟩ := avalh_some ha
    unfold aalloc at h1
    split at h1 <;> (try (cases h1; done))
    split at h1 <;> (try (cases h1; done))
    split at h1
    · unfold abld at h1
      split at h1 <;> (try (cases h1; done))
      cases h1
      exact app _ _ rfl
    split at h1 <;> (try (cases h1; done))
    cases h1
    exact app _ _ rfl
  case box e x =>
    obtain ⟨v, h2, h1, rfl⟩ := avalh_some ha
    unfold abox at h1
    split at h1 <;> (try (cases h1; done))
    cases h1
    exact app _ _ rfl
  case buildSlice t n ps =>
    obtain ⟨v, h2, h1, rfl⟩ := avalh_some ha
    unfold abuildSlice at h1
    split at h1 <;> (try (cases h1; done))
    split at h1 <;> (try (cases h1; done))
    split at h1 <;> (try (cases h1; done))
    split at h1 <;> (try (cases h1; done))
    cases h1
    exact app _ _ rfl
  case store t a x =>
    obtain ⟨h2, h1, rfl⟩ := askip_some ha
    unfold astore at h1
    split at h1 <;> (try (cases h1; done))
    rename_i b o heq
    split at h1 <;> (try (cases h1; done))
    split at h1 <;> (try (cases h1; done))
    split at h1 <;> (try (cases h1; done))
    cases h1
    refine ⟨?_, fun hw => by simp [isWriter] at hw⟩
    have : minLow lo (lowOf (.store t a x) ρ) ≤ b := by
      simp only [lowOf, heq, minLow]
      exact Nat.min_le_right _ _
    exact ⟨by simp, fun k hk _ => List.getElem?_set_ne (by omega)⟩
  case convert s d x =>
    obtain ⟨v, h2, h1, rfl⟩ := avalh_some ha
    unfold aconvert at h1
    split at h1 <;> (try (cases h1; done))
    · cases h1; exact ⟨Low.refl _ _, fun _ => Low.refl _ _⟩
    · cases h1; exact ⟨Low.refl _ _, fun _ => Low.refl _ _⟩
    · split at h1 <;> (try (cases h1; done)); cases h1; exact app _ _ rfl
    · split at h1 <;> (try (cases h1; done)); cases h1; exact ⟨Low.refl _ _, fun _ => Low.refl _ _⟩
    · split at h1 <;> (try (cases h1; done))
      split at h1
      · cases h1; exact ⟨Low.refl _ _, fun _ => Low.refl _ _⟩
      · split at h1 <;> (try (cases h1; done))
        split at h1 <;> (try (cases h1; done))
        simp only [Option.map_eq_some_iff, Prod.mk.injEq] at h1
        obtain ⟨_, _, _, rfl⟩ := h1
        exact ⟨Low.refl _ _, fun _ => Low.refl _ _⟩
    · split at h1 <;> (try (cases h1; done))
      split at h1 <;> (try (cases h1; done))
      simp only [Option.map_eq_some_iff, Prod.mk.injEq] at h1
      obtain ⟨_, _, _, rfl⟩ := h1
      exact ⟨Low.refl _ _, fun _ => Low.refl _ _⟩
    · split at h1 <;> (try (cases h1; done))
      split at h1 <;> (try (cases h1; done))
      split at h1 <;> (try (cases h1; done))
      cases h1; exact ⟨Low.refl _ _, fun _ => Low.refl _ _⟩
    · split at h1 <;> (try (cases h1; done))
      split at h1 <;> (try (cases h1; done))
      cases h1; exact ⟨Low.refl _ _, fun _ => Low.refl _ _⟩
    · split at h1 <;> (try (cases h1; done))
      split at h1 <;> (try (cases h1; done))
      cases h1; exact ⟨Low.refl _ _, fun _ => Low.refl _ _⟩
  case makeMap t r0 =>
    cases r0 with
    | some x => simp only [amore] at ha; cases ha
    | none =>
      obtain ⟨v, h2, h1, rfl⟩ := avalh_some ha
      unfold amMake at h1
      split at h1 <;> (try (cases h1; done))
      split at h1 <;> (try (cases h1; done))
      cases h1; exact app _ _ rfl
  case range t x =>
    obtain ⟨v, h2, h1, rfl⟩ := avalh_some ha
    unfold amRange at h1
    split at h1 <;> (try (cases h1; done))
    · cases h1; exact app _ _ rfl
    · split at h1 <;> (try (cases h1; done))
      cases h1; exact app _ _ rfl
  case next it str =>
    cases str with
    | true => simp only [amore] at ha; cases ha
    | false =>
      change amNext h (ρ it) = _ at ha
      unfold amNext at ha
      split at ha <;> (try (cases ha; done))
      split at ha <;> (try (cases ha; done))
      · cases ha; exact ⟨Low.refl _ _, fun _ => Low.refl _ _⟩
      · split at ha <;> (try (cases ha; done))
        split at ha <;> (try (cases ha; done))
        cases ha; trivial
  case mapUpdate t m k x =>
    obtain ⟨h2, h1, rfl⟩ := askip_some ha
    unfold amUpdate at h1
    split at h1 <;> (try (cases h1; done))
    split at h1 <;> (try (cases h1; done))
    split at h1 <;> (try (cases h1; done))
    rename_i b heq
    split at h1 <;> (try (cases h1; done))
    split at h1 <;> (try (cases h1; done))
    have hle : minLow lo (lowOf (.mapUpdate t m k x) ρ) ≤ b := by simp only [lowOf, heq, minLow]; exact Nat.min_le_right _ _
    split at h1 <;> cases h1 <;> exact ⟨⟨by simp, fun k hk _ => List.getElem?_set_ne (by omega)⟩, fun hw => by simp [isWriter] at hw⟩
  case insert t m k x =>
    obtain ⟨h2, h1, rfl⟩ := askip_some ha
    unfold amUpdate at h1
    split at h1 <;> (try (cases h1; done))
    split at h1 <;> (try (cases h1; done))
    split at h1 <;> (try (cases h1; done))
    rename_i b heq
    split at h1 <;> (try (cases h1; done))
    split at h1 <;> (try (cases h1; done))
    have hle : minLow lo (lowOf (.insert t m k x) ρ) ≤ b := by simp only [lowOf, heq, minLow]; exact Nat.min_le_right _ _
    split at h1 <;> cases h1 <;> exact ⟨⟨by simp, fun k hk _ => List.getElem?_set_ne (by omega)⟩, fun hw => by simp [isWriter] at hw⟩
  case mapEntry t m k =>
    obtain ⟨v, h2, h1, rfl⟩ := avalh_some ha
    unfold amEntry at h1
    split at h1 <;> (try (cases h1; done))
    split at h1 <;> (try (cases h1; done))
    split at h1 <;> (try (cases h1; done))
    split at h1 <;> (try (cases h1; done))
    rename_i b heq
    split at h1 <;> (try (cases h1; done))
    split at h1 <;> (try (cases h1; done))
    have hle : minLow lo (lowOf (.mapEntry t m k) ρ) ≤ b := by simp only [lowOf, heq, minLow]; exact Nat.min_le_right _ _
    split at h1 <;> cases h1 <;> exact ⟨⟨by simp, fun k hk _ => List.getElem?_set_ne (by omega)⟩, fun hw => by simp [isWriter] at hw⟩
  case entryStore t m s x =>
    obtain ⟨h2, h1, rfl⟩ := askip_some ha
    unfold amEntryStore at h1
    split at h1 <;> (try (cases h1; done))
    rename_i b n heq _
    split at h1 <;> (try (cases h1; done))
    split at h1 <;> (try (cases h1; done))
    have hle : minLow lo (lowOf (.entryStore t m s x) ρ) ≤ b := by simp only [lowOf, heq, minLow]; exact Nat.min_le_right _ _
    cases h1; exact ⟨⟨by simp, fun k hk _ => List.getElem?_set_ne (by omega)⟩, fun hw => by simp [isWriter] at hw⟩
  case makeSlice t l c =>
    obtain ⟨v, h2, h1, rfl⟩ := avalh_some ha
    unfold amakeSlice at h1
    split at h1 <;> (try (cases h1; done))
    split at h1 <;> (try (cases h1; done))
    split at h1 <;> (try (cases h1; done))
    cases h1
    exact app _ _ rfl
  case slice t x lo2 hi mx =>
    cases mx with
    | some x => simp only [amore] at ha; cases ha
    | none => exact same _ ha
  case call c =>
    obtain ⟨cal, args, ts⟩ := c
    cases cal with
    | invoke r m => simp only at ha; cases ha
    | value fo =>
      simp only [acall] at ha
      split at ha
      · split at ha
        · cases ha
          trivial
        · unfold aextern at ha
          split at ha <;> (try (cases ha; done))
          · split at ha <;> (try (cases ha; done))
            exact same _ ha
          · split at ha <;> (try (cases ha; done))
            exact same _ ha
          · split at ha
            · exact same _ ha
            · split at ha <;> (try (cases ha; done))
              exact same _ ha
      · cases ha
    | builtin b =>
      simp only at ha
      unfold abuiltin at ha
      split at ha <;> (try (cases ha; done)) <;> (try exact same _ ha) <;> (try (split at ha <;> (try (cases ha; done)) <;> exact same _ ha))
      · rename_i t u s x ht hx
        obtain ⟨v, h2, h1, rfl⟩ := avalh_some ha
        have hargs : ∃ y z, args = #[y, z] ∧ ρ y = s ∧ ρ z = x := by
          obtain ⟨l⟩ := args
          match l, hx with
          | [y, z], hx => simp at hx; exact ⟨y, z, rfl, hx.1, hx.2⟩
          | [], hx => simp at hx
          | [_], hx => simp at hx
          | _ :: _ :: _ :: _, hx => simp at hx
        obtain ⟨y, z, rfl, hy, hz⟩ := hargs
        refine ⟨?_, fun hw => by simp [isWriter] at hw⟩
        unfold aappend at h1
        split at h1 <;> (try (cases h1; done))
        split at h1 <;> (try (cases h1; done))
        split at h1 <;> (try (cases h1; done))
        split at h1 <;> (try (cases h1; done))
        · split at h1
          · cases h1; exact Low.refl _ _
          · split at h1 <;> (try (cases h1; done))
            cases h1; exact Low.append _ _ _
        · split at h1 <;> (try (cases h1; done))
          split at h1
          · cases h1; exact Low.refl _ _
          · split at h1 <;> (try (cases h1; done))
            cases h1; exact Low.append _ _ _
        · rename_i b o len cap
          have hb : minLow lo (lowOf (.call ⟨.builtin .append, #[y, z], ts⟩) ρ) ≤ b := by
            simp only [lowOf, List.getElem?_toArray, List.getElem?_cons_zero, hy, minLow]
            exact Nat.min_le_right _ _
          split at h1
          · cases h1; exact Low.refl _ _
          · split at h1 <;> (try (cases h1; done))
            split at h1 <;> (try (cases h1; done))
            split at h1
            · split at h1 <;> (try (cases h1; done))
              cases h1
              exact ⟨by simp, fun k hk _ => List.getElem?_set_ne (by omega)⟩
            · split at h1 <;> (try (cases h1; done))
              cases h1
              refine ⟨by simp, fun k hk hl => ?_⟩
              rw [List.getElem?_append_left (by simpa using hl)]
              exact List.getElem?_set_ne (by omega)
      · rename_i t u d s ht hx
        obtain ⟨v, h2, h1, rfl⟩ := avalh_some ha
        have hargs : ∃ y z, args = #[y, z] ∧ ρ y = d ∧ ρ z = s := by
          obtain ⟨l⟩ := args
          match l, hx with
          | [y, z], hx => simp at hx; exact ⟨y, z, rfl, hx.1, hx.2⟩
          | [], hx => simp at hx
          | [_], hx => simp at hx
          | _ :: _ :: _ :: _, hx => simp at hx
        obtain ⟨y, z, rfl, hy, hz⟩ := hargs
        refine ⟨?_, fun hw => by simp [isWriter] at hw⟩
        unfold acopy at h1
        split at h1 <;> (try (cases h1; done))
        split at h1 <;> (try (cases h1; done))
        split at h1 <;> (try (cases h1; done))
        split at h1 <;> (try (cases h1; done))
        · rename_i b o len cap
          have hb : minLow lo (lowOf (.call ⟨.builtin .copy, #[y, z], ts⟩) ρ) ≤ b := by
            simp only [lowOf, List.getElem?_toArray, List.getElem?_cons_zero, hy, minLow]
            exact Nat.min_le_right _ _
          split at h1
          · cases h1; exact Low.refl _ _
          · split at h1 <;> (try (cases h1; done))
            split at h1 <;> (try (cases h1; done))
            cases h1
            exact ⟨by simp, fun k hk _ => List.getElem?_set_ne (by omega)⟩
        · cases h1; exact Low.refl _ _
      · rename_i t u d s ht hx
        obtain ⟨v, h2, h1, rfl⟩ := avalh_some ha
        have hargs : ∃ y z, args = #[y, z] ∧ ρ y = d ∧ ρ z = s := by
          obtain ⟨l⟩ := args
          match l, hx with
          | [y, z], hx => simp at hx; exact ⟨y, z, rfl, hx.1, hx.2⟩
          | [], hx => simp at hx
          | [_], hx => simp at hx
          | _ :: _ :: _ :: _, hx => simp at hx
        obtain ⟨y, z, rfl, hy, hz⟩ := hargs
        refine ⟨?_, fun hw => by simp [isWriter] at hw⟩
        unfold amDelete at h1
        split at h1 <;> (try (cases h1; done))
        split at h1 <;> (try (cases h1; done))
        split at h1 <;> (try (cases h1; done))
        rename_i b
        split at h1 <;> (try (cases h1; done))
        split at h1 <;> (try (cases h1; done))
        have hle : minLow lo (lowOf (.call ⟨.builtin .delete, #[y, z], ts⟩) ρ) ≤ b := by
          simp only [lowOf, List.getElem?_toArray, List.getElem?_cons_zero, hy, minLow]
          exact Nat.min_le_right _ _
        split at h1 <;> cases h1 <;> exact ⟨by simp, fun k hk _ => List.getElem?_set_ne (by omega)⟩
      · rename_i t u p n ht hx
        obtain ⟨v, h2, h1, rfl⟩ := avalh_some ha
        have hargs : ∃ y z, args = #[y, z] ∧ ρ y = p ∧ ρ z = n := by
          obtain ⟨l⟩ := args
          match l, hx with
          | [y, z], hx => simp at hx; exact ⟨y, z, rfl, hx.1, hx.2⟩
          | [], hx => simp at hx
          | [_], hx => simp at hx
          | _ :: _ :: _ :: _, hx => simp at hx
        obtain ⟨y, z, rfl, hy, hz⟩ := hargs
        refine ⟨?_, fun hw => by simp [isWriter] at hw⟩
        unfold astring at h1
        split at h1 <;> (try (cases h1; done))
        · cases h1; exact Low.refl _ _
        · rename_i e b o k m hu
          split at h1 <;> (try (cases h1; done))
          split at h1 <;> (try (cases h1; done))
          simp only [Option.map_eq_some_iff, Prod.mk.injEq] at h1
          obtain ⟨_, _, _, rfl⟩ := h1
          have hle : minLow lo (lowOf (.call ⟨.builtin .unsafeString, #[y, z], ts⟩) ρ) ≤ b := by
            simp only [lowOf, List.getElem?_toArray, List.getElem?_cons_zero, hy, minLow]
            exact Nat.min_le_right _ _
          exact ⟨by simp, fun k hk _ => List.getElem?_set_ne (by omega)⟩

/-- what the callee is known to do -/
def CallOk (P : Program) (call : FuncId → Array Value → AH → Option (Value × AH × Nat)) : Prop :=
  ∀ F args h v h1 lo, call F args h = some (v, h1, lo) → ACalls P F args h (fun v' h' => v' = v ∧ h' = h1) ∧ Low h h1 lo

theorem minLow_le (a : Nat) (x : Option Nat) : minLow a x ≤ a := by
  cases x with
  | none => exact Nat.le_refl _
  | some b => exact Nat.min_le_left _ _

theorem runOps_sound {P : Program} {call : FuncId → Array Value → AH → Option (Value × AH × Nat)} (hc : CallOk P call) {ops : Array Oper} (l : List Oper) : ∀ {a a1 : Array Value} {h h1 : AH} {lo l1 : Nat},
    runOps P call ops l a h lo = some (a1, h1, l1) → (∀ Q : Exit → Array Value → AH → Prop, Q .normal a1 h1 → awl P ops Q l a h) ∧ l1 ≤ lo ∧ ∀ base, Low base h lo → Low base h1 l1 := by
  induction l with
  | nil => intro a a1 h h1 lo l1 hr; simp only [runOps, Option.some.injEq, Prod.mk.injEq] at hr; obtain ⟨rfl, rfl, rfl⟩ := hr; exact ⟨fun Q hq => hq, Nat.le_refl _, fun _ hb => hb⟩
  | cons o rest ih =>
    intro a a1 h h1 lo l1 hr
    unfold runOps at hr
    split at hr
    · rename_i hg
      obtain ⟨h2, h3, h4⟩ := ih hr
      exact ⟨fun Q hq => by unfold awl; rw [hg]; exact h2 Q hq, h3, h4⟩
    · rename_i hg
      split at hr
      · rename_i v hh hv
        obtain ⟨h2, h3, h4⟩ := ih hr
        have hl := (aop_low hv lo).1
        exact ⟨fun Q hq => by unfold awl; rw [hg]; simp only [hv]; exact h2 Q hq, Nat.le_trans h3 (minLow_le _ _), fun base hb => h4 base (hb.trans hl (minLow_le _ _) (Nat.le_refl _))⟩
      · rename_i hh hv
        obtain ⟨h2, h3, h4⟩ := ih hr
        have hl := (aop_low hv lo).1
        exact ⟨fun Q hq => by unfold awl; rw [hg]; simp only [hv]; exact h2 Q hq, Nat.le_trans h3 (minLow_le _ _), fun base hb => h4 base (hb.trans hl (minLow_le _ _) (Nat.le_refl _))⟩
      · rename_i F args hv
        split at hr
        · rename_i v hh lc hcall
          obtain ⟨h2, h3, h4⟩ := ih hr
          obtain ⟨k1, k2⟩ := hc _ _ _ _ _ _ hcall
          refine ⟨fun Q hq => ?_, Nat.le_trans h3 (Nat.min_le_left _ _), fun base hb => h4 base (hb.trans k2 (Nat.min_le_left _ _) (Nat.min_le_right _ _))⟩
          unfold awl
          rw [hg]
          simp only [hv]
          refine ⟨_, k1, ?_⟩
          rintro v' h' ⟨rfl, rfl⟩
          exact h2 Q hq
        · cases hr
      · cases hr
    · cases hr

theorem abuiltin_enter {P : Program} {h : AH} {b : Builtin} {ts : Array TypeId} {ty : TypeId} {args as : Array Value} {F : FuncId} (ha : abuiltin P h b ts ty args = some (.enter F as)) : False := by
  unfold abuiltin at ha
  split at ha
  · obtain ⟨_, _, hh⟩ := aval_some ha; cases hh
  · obtain ⟨_, _, _, hh⟩ := avalh_some ha; cases hh
  · obtain ⟨_, _, _, hh⟩ := avalh_some ha; cases hh
  · obtain ⟨_, _, _, hh⟩ := avalh_some ha; cases hh
  · obtain ⟨_, _, hh⟩ := aval_some ha; cases hh
  · obtain ⟨_, _, _, hh⟩ := avalh_some ha; cases hh
  · split at ha
    · obtain ⟨_, _, hh⟩ := aval_some ha; cases hh
    · cases ha
  · split at ha
    · obtain ⟨_, _, hh⟩ := aval_some ha; cases hh
    · cases ha
  · cases ha

theorem aop_enter_notw {P : Program} {ρ : Operand → Value} {h : AH} {o : Oper} {F : FuncId} {as : Array Value} (ha : aop P ρ h o = some (.enter F as)) : isWriter o.op = false := by
  obtain ⟨dst, op, type, pos, after, guard⟩ := o
  cases op
  case store t a x => obtain ⟨_, _, hh⟩ := askip_some ha; cases hh
  case call c =>
    obtain ⟨cal, args2, ts⟩ := c
    cases cal with
    | value f => rfl
    | invoke r m => rfl
    | builtin b => exact (abuiltin_enter ha).elim
  case mapUpdate => obtain ⟨_, _, hh⟩ := askip_some ha; cases hh
  case insert => obtain ⟨_, _, hh⟩ := askip_some ha; cases hh
  case mapEntry => obtain ⟨_, _, _, hh⟩ := avalh_some ha; cases hh
  case entryStore => obtain ⟨_, _, hh⟩ := askip_some ha; cases hh
  case next it str =>
    cases str with
    | true => cases ha
    | false =>
      change amNext h _ = _ at ha
      unfold amNext at ha
      split at ha <;> (try (cases ha; done))
      split at ha <;> (try (cases ha; done))
      split at ha <;> (try (cases ha; done))
      split at ha <;> cases ha
  all_goals rfl

theorem runDraw_sound {P : Program} {call : FuncId → Array Value → AH → Option (Value × AH × Nat)} (hc : CallOk P call) {ops : Array Oper} {H0 : AH} (l : List Oper) : ∀ {a a1 : Array Value} {h h1 : AH} {lo l1 : Nat},
    (Pres H0 h ∧ H0.length ≤ h.length) ∨ l.all (fun x => !isLoad x.op && (isV P x.op || isWriter x.op)) = true → runDraw P call ops H0 l a h lo = some (a1, h1, l1) →
      (∀ Q : Exit → Array Value → AH → Prop, Q .normal a1 h1 → awd P ops H0 Q l a h) ∧ l1 ≤ lo ∧ ∀ base, Low base h lo → Low base h1 l1 := by
  induction l with
  | nil => intro a a1 h h1 lo l1 _ hr; simp only [runDraw, Option.some.injEq, Prod.mk.injEq] at hr; obtain ⟨rfl, rfl, rfl⟩ := hr; exact ⟨fun Q hq => hq, Nat.le_refl _, fun _ hb => hb⟩
  | cons o rest ih =>
    intro a a1 h h1 lo l1 hp hr
    have hp' : (Pres H0 h ∧ H0.length ≤ h.length) ∨ rest.all (fun x => !isLoad x.op && (isV P x.op || isWriter x.op)) = true := hp.imp id fun h => by
      simp only [List.all_cons, Bool.and_eq_true] at h ⊢
      exact h.2
    unfold runDraw at hr
    split at hr
    · rename_i hg
      obtain ⟨h2, h3, h4⟩ := ih hp' hr
      exact ⟨fun Q hq => by unfold awd; rw [hg]; exact h2 Q hq, h3, h4⟩
    · rename_i hg
      split at hr
      · rename_i hv
        split at hr
        · rename_i v hh hval
          obtain ⟨h2, h3, h4⟩ := ih hp' hr
          exact ⟨fun Q hq => by unfold awd; rw [hg]; simp only [hv, if_true, hval]; exact h2 Q hq, h3, h4⟩
        · cases hr
      · rename_i hv
        have notw : isWriter o.op = false → Pres H0 h ∧ H0.length ≤ h.length := fun hw => by
          rcases hp with hp | hp
          · exact hp
          · simp only [List.all_cons, Bool.and_eq_true, Bool.or_eq_true] at hp
            rcases hp.1.2 with h1 | h1
            · exact absurd h1 hv
            · rw [hw] at h1; cases h1
        have loads : rest.all (fun x => !isLoad x.op && (isV P x.op || isWriter x.op)) = true → ∀ x ∈ rest, isLoad x.op = false := fun hall x hx => by
          rw [List.all_eq_true] at hall
          have := hall x hx
          simp only [Bool.and_eq_true, Bool.not_eq_true'] at this
          exact this.1
        split at hr
        · rename_i v hh hval
          have hl := aop_low hval lo
          split at hr
          · rename_i hw
            simp only [Bool.and_eq_true] at hw
            obtain ⟨h2, h3, h4⟩ := ih (.inr hw.2) hr
            exact ⟨fun Q hq => by unfold awd; rw [hg]; simp only [hv, hval]; exact ⟨.inr ⟨hw.1, fun x hx hl => absurd hl (by rw [loads hw.2 x hx]; simp)⟩, h2 Q hq⟩, Nat.le_trans h3 (minLow_le _ _), fun base hb => h4 base (hb.trans hl.1 (minLow_le _ _) (Nat.le_refl _))⟩
          · split at hr
            · cases hr
            · rename_i hw
              simp only [Bool.not_eq_true] at hw
              obtain ⟨hpr, hpl⟩ := notw hw
              have hl2 := hl.2 hw
              have hpres : Pres H0 hh ∧ H0.length ≤ hh.length := ⟨fun b hb => (hl2.2 b (by omega) (by omega)).trans (hpr b hb), Nat.le_trans hpl hl2.1⟩
              obtain ⟨h2, h3, h4⟩ := ih (.inl hpres) hr
              refine ⟨fun Q hq => by unfold awd; rw [hg]; simp only [hv, hval]; exact ⟨.inl hpres.1, h2 Q hq⟩, h3, fun base hb => h4 base ⟨Nat.le_trans hb.1 hl2.1, fun b hb1 hb2 => (hl2.2 b (Nat.lt_of_lt_of_le hb2 hb.1) (Nat.lt_of_lt_of_le hb2 hb.1)).trans (hb.2 b hb1 hb2)⟩⟩
        · rename_i hh hval
          have hl := aop_low hval lo
          split at hr
          · rename_i hw
            simp only [Bool.and_eq_true] at hw
            obtain ⟨h2, h3, h4⟩ := ih (.inr hw.2) hr
            exact ⟨fun Q hq => by unfold awd; rw [hg]; simp only [hv, hval]; exact ⟨.inr ⟨hw.1, fun x hx hl => absurd hl (by rw [loads hw.2 x hx]; simp)⟩, h2 Q hq⟩, Nat.le_trans h3 (minLow_le _ _), fun base hb => h4 base (hb.trans hl.1 (minLow_le _ _) (Nat.le_refl _))⟩
          · cases hr
        · rename_i F args hval
          split at hr
          · rename_i v hh lc hcall
            split at hr
            · rename_i hlc0
              obtain ⟨hlc, hal⟩ := hlc0
              obtain ⟨k1, k2⟩ := hc _ _ _ _ _ _ hcall
              have hw : isWriter o.op = false := aop_enter_notw hval
              obtain ⟨hpr, hpl⟩ := notw hw
              have hpres : Pres H0 hh ∧ H0.length ≤ hh.length := ⟨fun b hb => (k2.2 b (by omega) (by omega)).trans (hpr b hb), Nat.le_trans hpl k2.1⟩
              obtain ⟨h2, h3, h4⟩ := ih (.inl hpres) hr
              refine ⟨fun Q hq => ?_, Nat.le_trans h3 (Nat.min_le_left _ _), fun base hb => h4 base (hb.trans k2 (Nat.min_le_left _ _) (Nat.min_le_right _ _))⟩
              unfold awd
              rw [hg]
              simp only [hv, hval]
              refine ⟨_, k1, .inl hal, ?_⟩
              rintro v' h' ⟨rfl, rfl⟩
              exact ⟨hpres.1, h2 Q hq⟩
            · cases hr
          · cases hr
        · cases hr
    · cases hr

def Runs (P : Program) (c : Code) (a : Array Value) (h : AH) (lo : Nat) (e : AEx) (a1 : Array Value) (h1 : AH) (l1 : Nat) : Prop :=
  (∀ (h0 : AH) (Q : Exit → Array Value → AH → Prop), Q e.ex a1 h1 → AWP P h0 c Q a h) ∧ l1 ≤ lo ∧ ∀ base, Low base h lo → Low base h1 l1

theorem runCode_sound {P : Program} {call : FuncId → Array Value → AH → Option (Value × AH × Nat)} (hc : CallOk P call) (n : Nat) (c : Code) : ∀ {a a1 : Array Value} {h h1 : AH} {lo l1 : Nat} {e : AEx},
    runCode P call n c a h lo = some (e, a1, h1, l1) → Runs P c a h lo e a1 h1 l1 := by
  induction c with
  | skip => intro a a1 h h1 lo l1 e hr; cases hr; exact ⟨fun h0 Q hq => ay_sound (.skip) Q a h hq, Nat.le_refl _, fun _ hb => hb⟩
  | label l => intro a a1 h h1 lo l1 e hr; cases hr; exact ⟨fun h0 Q hq => ay_sound (.label l) Q a h hq, Nat.le_refl _, fun _ hb => hb⟩
  | exit id => intro a a1 h h1 lo l1 e hr; cases hr; exact ⟨fun h0 Q hq => ay_sound (.exit id) Q a h hq, Nat.le_refl _, fun _ hb => hb⟩
  | ret => intro a a1 h h1 lo l1 e hr; cases hr; exact ⟨fun h0 Q hq => ay_sound .ret Q a h hq, Nat.le_refl _, fun _ hb => hb⟩
  | region id ops draw =>
    intro a a1 h h1 lo l1 e hr
    cases draw with
    | false =>
      simp only [runCode, Option.map_eq_some_iff, Prod.mk.injEq] at hr
      obtain ⟨⟨b, k, m⟩, h2, rfl, rfl, rfl, rfl⟩ := hr
      obtain ⟨k1, k2, k3⟩ := runOps_sound hc _ h2
      exact ⟨fun h0 Q hq => AWP.region (k1 Q hq), k2, k3⟩
    | true =>
      simp only [runCode] at hr
      split at hr
      · rename_i hok
        simp only [Bool.and_eq_true] at hok
        simp only [Option.map_eq_some_iff, Prod.mk.injEq] at hr
        obtain ⟨⟨b, k, m⟩, h2, rfl, rfl, rfl, rfl⟩ := hr
        obtain ⟨k1, k2, k3⟩ := runDraw_sound hc _ (.inl ⟨fun _ _ => rfl, Nat.le_refl _⟩) h2
        refine ⟨fun h0 Q hq => ?_, k2, k3⟩
        have := AWP.draw (P := P) (h0 := h0) (id := id) (l := ops.toList) (Q := Q) (a := a) (h := h) hok.2 hok.1 (by simpa using k1 Q hq)
        simpa using this
      · cases hr
  | seq x y ihx ihy =>
    intro a a1 h h1 lo l1 e hr
    simp only [runCode] at hr
    split at hr
    · rename_i a2 h2 l2 hx
      obtain ⟨k1, k2, k3⟩ := ihx hx
      obtain ⟨m1, m2, m3⟩ := ihy hr
      exact ⟨fun h0 Q hq => AWP.seq (k1 h0 _ (m1 h0 Q hq)), Nat.le_trans m2 k2, fun base hb => m3 base (k3 base hb)⟩
    · rename_i hne
      obtain ⟨k1, k2, k3⟩ := ihx hr
      refine ⟨fun h0 Q hq => AWP.seq (k1 h0 _ ?_), k2, k3⟩
      cases e with
      | normal => exact absurd hr (hne _ _ _)
      | exit id => exact hq
      | ret => exact hq
  | cond c x y ihx ihy =>
    intro a a1 h h1 lo l1 e hr
    simp only [runCode] at hr
    split at hr
    · rename_i hcnd
      obtain ⟨k1, k2, k3⟩ := ihx hr
      refine ⟨fun h0 Q hq f0 w0 f a' w s0 g ro hrb => ?_, k2, k3⟩
      have hcv := aeval_rel g.sim g.tm c
      rw [hcnd] at hcv
      exact wpIn_cond_true hcv.bool_inv (k1 h0 Q hq f0 w0 f a' w s0 g ro hrb)
    · rename_i hcnd
      obtain ⟨k1, k2, k3⟩ := ihy hr
      refine ⟨fun h0 Q hq f0 w0 f a' w s0 g ro hrb => ?_, k2, k3⟩
      have hcv := aeval_rel g.sim g.tm c
      rw [hcnd] at hcv
      exact wpIn_cond_false hcv.bool_inv (k1 h0 Q hq f0 w0 f a' w s0 g ro hrb)
    · cases hr
  | block id c ih =>
    intro a a1 h h1 lo l1 e hr
    simp only [runCode] at hr
    split at hr
    · rename_i id' a2 h2 l2 hx
      obtain ⟨k1, k2, k3⟩ := ih hx
      split at hr
      · rename_i he
        cases hr
        exact ⟨fun h0 Q hq => AWP.block (k1 h0 _ (by show if id' = id then _ else _; rw [if_pos he]; exact hq)), k2, k3⟩
      · rename_i he
        cases hr
        exact ⟨fun h0 Q hq => AWP.block (k1 h0 _ (by show if id' = id then _ else _; rw [if_neg he]; exact hq)), k2, k3⟩
    · rename_i hne
      obtain ⟨k1, k2, k3⟩ := ih hr
      refine ⟨fun h0 Q hq => AWP.block (k1 h0 _ ?_), k2, k3⟩
      cases e with
      | normal => exact hq
      | exit id => exact absurd hr (hne _ _ _ _)
      | ret => exact hq
  | loop c ih =>
    intro a a1 h h1 lo l1 e hr
    simp only [runCode] at hr
    have low : ∀ (k : Nat) (a : Array Value) (h : AH) (lo : Nat), iter (runCode P call n c) k a h lo = some (e, a1, h1, l1) → e ≠ .normal ∧ l1 ≤ lo ∧ ∀ base, Low base h lo → Low base h1 l1 := by
      intro k
      induction k with
      | zero => intro a h lo hh; cases hh
      | succ k ihk =>
        intro a h lo hh
        simp only [iter] at hh
        split at hh
        · rename_i a2 h2 l2 hx
          obtain ⟨k1, k2, k3⟩ := ih hx
          obtain ⟨m0, m1, m2⟩ := ihk _ _ _ hh
          exact ⟨m0, Nat.le_trans m1 k2, fun base hb => m2 base (k3 base hb)⟩
        · rename_i hne
          obtain ⟨k1, k2, k3⟩ := ih hh
          exact ⟨fun he => by subst he; exact hne _ _ _ hh, k2, k3⟩
    refine ⟨fun h0 Q hq => ?_, (low n a h lo hr).2⟩
    refine AWP.loop (fun k a h => ∃ lo, iter (runCode P call n c) k a h lo = some (e, a1, h1, l1)) (n := n) ⟨lo, hr⟩ ?_
    rintro k a h ⟨lo, hk⟩
    cases k with
    | zero => cases hk
    | succ k =>
      simp only [iter] at hk
      split at hk
      · rename_i a2 h2 l2 hx
        obtain ⟨k1, k2, k3⟩ := ih hx
        exact k1 h0 _ ⟨k, a2, h2, Nat.lt_succ_self _, .inl ⟨rfl, rfl⟩, l2, hk⟩
      · rename_i hne
        obtain ⟨k1, k2, k3⟩ := ih hk
        refine k1 h0 _ ?_
        cases e with
        | normal => exact absurd hk (hne _ _ _)
        | exit id => exact hq
        | ret => exact hq
  | _ => intros; rename_i hr; cases hr

theorem plain1_ren {σ : Nat → Nat} {L : Nat} {v : Value} (h : plain1 v = true) : VRen σ L v v := .plain v h
theorem plain_ren {σ : Nat → Nat} {L : Nat} {v : Value} (h : plainB v = true) : VRen σ L v v := by
  cases v with
  | agg cs =>
    refine .agg cs cs rfl fun i => ?_
    by_cases hi : i < cs.size
    · exact .plain _ (getD_all h i hi)
    · rw [getD_ge i hi]; exact .junk _
  | iface t v => exact .iface t v v (.plain v h)
  | func fn xs cs =>
    cases fn with
    | func F =>
      simp only [plainB, Bool.and_eq_true, beq_iff_eq] at h
      exact .func _ xs xs cs cs rfl rfl (fun i => by rw [getD_ge i (by omega)]; exact .junk _) rfl (fun i => by rw [getD_ge i (by omega)]; exact .junk _)
    | _ => simp [plainB, plain1] at h
  | _ => exact .plain _ (by simpa [plainB] using h)

theorem GC.drop {h0 h : AH} (hl : h0.length ≤ h.length) (hp : ∀ b, b < h0.length → h[b]? = h0[b]?) : GC h0 id h h0 :=
  ⟨Nat.le_refl _, fun _ _ => rfl, fun b o1 hb _ => ⟨o1, by
    have hlt := (List.getElem?_eq_some_iff.1 hb).1
    show h[b]? = _
    rw [hp b hlt]; exact hb, .inl ⟨(List.getElem?_eq_some_iff.1 hb).1, hb, rfl⟩⟩, fun b b' _ _ e => e⟩

theorem arun_sound {P : Program} : ∀ n, CallOk P (arun P n) := by
  intro n
  induction n with
  | zero => intro F args h v h1 lo hr; cases hr
  | succ n ih =>
    intro F args h v h1 lo hr
    simp only [arun] at hr
    split at hr
    · rename_i fn hf
      split at hr
      · rename_i c hb
        split at hr
        · rename_i e a h2 l2 hrun
          obtain ⟨k1, k2, k3⟩ := runCode_sound ih n c hrun
          have hlow := k3 h (Low.refl _ _)
          have fin : ∀ (e' : AEx), e = e' → (∀ id, e' ≠ .exit id) → (match aresults P fn a h2 with
              | some v => if plainB v && Nat.ble h.length l2 then some (v, h, h.length) else some (v, h2, l2)
              | none => none) = some (v, h1, lo) → ACalls P F args h (fun v' h' => v' = v ∧ h' = h1) ∧ Low h h1 lo := by
            intro e' he hne hm
            subst he
            split at hm
            · rename_i v0 hres
              have post : ∀ (v1 : Value) (h1 : AH), Eases P h #[v0] h2 #[v1] h1 → apost P h fn (fun v' h' => v' = v1 ∧ h' = h1) e.ex a h2 := by
                intro v1 h1 hfg
                cases e with
                | normal => exact ⟨v0, v1, h1, hres, hfg, rfl, rfl⟩
                | ret => exact ⟨v0, v1, h1, hres, hfg, rfl, rfl⟩
                | exit id => exact absurd rfl (hne id)
              split at hm
              · rename_i hcond
                simp only [Bool.and_eq_true, Nat.ble_eq] at hcond
                cases hm
                exact ⟨ACalls.of_awp hf hb ⟨_, _, rfl, rfl⟩ (k1 h _ (post v h (ForgetV.eases (.inr ⟨id, GC.drop hlow.1 (fun b hb => hlow.2 b (by omega) hb), plain_ren hcond.1⟩)))), Low.refl _ _⟩
              · cases hm
                exact ⟨ACalls.of_awp hf hb ⟨_, _, rfl, rfl⟩ (k1 h _ (post v h1 .refl)), hlow⟩
            · cases hm
          cases e with
          | exit id => cases hr
          | normal => exact fin .normal rfl (fun id => by simp) hr
          | ret => exact fin .ret rfl (fun id => by simp) hr
        · cases hr
      · cases hr
    · cases hr

/-- what a heap for reckoning may hold: tables that are only read -/
def roPlain : AObj → Bool
  | .dead => true
  | .cells c _ false => c.all plain1
  | _ => false

/-- A closed call, reckoned at a heap that holds no more than what is needed, is so at every heap that holds this. -/
theorem ACalls.of_run {P : Program} {F : FuncId} {args : Array Value} {hg h : AH} {n : Nat} {v : Value} {h1 : AH} {lo : Nat} (hr : arun P n F args hg = some (v, h1, lo)) (hv : plainB v = true) (ha : args.all plainB = true)
    (hsz : P.globals.size ≤ hg.length) (hro : hg.all roPlain = true) (hat : ∀ (b : Nat) (o : AObj), hg[b]? = some o → o.alive = true → h[b]? = some o) : ACalls P F args h (fun v' h' => v' = v ∧ h' = h) := by
  obtain ⟨hc, _⟩ := arun_sound n F args hg v h1 lo hr
  refine ⟨⟨_, _, rfl, rfl⟩, fun f w args' hs hargs => ?_⟩
  have hargs' : args' = args := arel_plain hargs ha
  subst hargs'
  have hro' : ∀ (b : Nat) (o : AObj), hg[b]? = some o → roPlain o = true := fun b o hb => by
    rw [List.all_eq_true] at hro
    exact hro o (List.mem_of_getElem? hb)
  have norw : ∀ (b : Nat) (o : AObj), hg[b]? = some o → o.rw = false := fun b o hb => by
    have := hro' b o hb
    cases o with
    | cells c es rw => cases rw <;> simp_all [roPlain, AObj.rw]
    | dead => rfl
    | _ => simp [roPlain] at this
  have hsg : Sim P f hg w := by
    refine ⟨fun b o hb hal => ?_, fun b b' o o' hb hb' hal hal' hrw _ => ?_, hs.glob, hsz, fun r ds hr => ⟨(hs.rom r ds hr).1, fun b o hb ho => by rw [norw b o hb] at ho; cases ho⟩, hs.laid, fun b o hb => by have := hro' b o hb; cases o <;> first | trivial | simp [roPlain] at this⟩
    · obtain ⟨o', h4, h5⟩ := hs.obj b o (hat b o hb hal) hal
      refine ⟨o', h4, ?_⟩
      have hp := hro' b o hb
      cases o with
      | cells c es rw =>
        cases rw with
        | true => simp [roPlain] at hp
        | false =>
          obtain ⟨c', elem, fr, k1, k2, k3, k4, k5, k6, k7⟩ := h5
          refine ⟨c', elem, fr, k1, k2, k3, k4, k5, k6, fun i hi => ⟨?_, (k7 i hi).2⟩⟩
          have hpl := getD_all hp i hi
          have := plain1_inv hpl (k7 i hi).1
          rw [this]
          exact plain1_refl hpl
      | dead => simp [AObj.alive] at hal
      | _ => simp [roPlain] at hp
    · rw [norw b o hb] at hrw; cases hrw
  have hargs2 : ARel f hg.length args' args' := by
    refine ⟨rfl, fun i => ?_⟩
    by_cases hi : i < args'.size
    · rw [Array.all_eq_true] at ha
      exact plain_refl (by simpa [Array.getD, hi] using ha i hi)
    · rw [getD_ge i hi]; exact .junk _
  refine (hc.run f w args' hsg hargs2).mono fun e w1 hx => ?_
  obtain ⟨f', v0, v', h', rfl, ⟨rfl, rfl⟩, st, hvr⟩ := hx
  have hv' : v' = v0 := plain_inv hv hvr
  subst hv'
  have hblk : ∀ r, r < w.heap.size → w1.heap[r]? = w.heap[r]? := fun r hr => st.keep.block r hr (fun b o hb ho => by rw [norw b o hb] at ho; cases ho)
  refine ⟨f, v', v', h, rfl, ⟨rfl, rfl⟩, ⟨⟨fun b o hb hal => ?_, hs.sep, hs.glob, hs.size, fun r ds hr => by
    obtain ⟨⟨e, fr, k1⟩, k2⟩ := hs.rom r ds hr
    exact ⟨⟨e, fr, by rw [hblk _ (Array.getElem?_eq_some_iff.1 k1).1]; exact k1⟩, k2⟩, hs.laid, hs.ok⟩, .refl _ _, Nat.le_refl _, ⟨st.keep.os, st.keep.tape, st.keep.output, st.keep.size, fun r hr _ => hblk r hr, st.keep.drawn⟩, fun b o hb ho => .inr ⟨b, o, hb, ho, rfl⟩⟩, plain_refl hv⟩
  obtain ⟨o', h4, h5⟩ := hs.obj b o hb hal
  exact ⟨o', by rw [hblk _ (Array.getElem?_eq_some_iff.1 h4).1]; exact h4, h5⟩

end Go.Am
set_option linter.unusedVariables false
set_option linter.unusedSimpArgs false
/- The end of a function. -/
namespace Go.Am
open Go

theorem VB_undef {σ : Nat → Nat} {L : Nat} : VRen σ L undef undef := .tuple #[] #[] rfl (fun i => by simp; exact .junk _)

def keeps (h0 h : AH) : Prop := h0.length ≤ h.length ∧ ∀ b, b < h0.length → h[b]? = h0[b]?
theorem keeps_refl (h : AH) : keeps h h := ⟨Nat.le_refl _, fun _ _ => rfl⟩
theorem keeps_append (h l : AH) : keeps h (h ++ l) := ⟨by simp, fun b hb => List.getElem?_append_left hb⟩

theorem aresults_tmp {P : Program} {fn : Func} {t : Nat} (hr : fn.results = #[.tmp t]) (a : Array Value) (h : AH) : aresults P fn a h = some (a.getD t junk) := by
  simp [aresults, hr, aresL, ares1]
theorem aresults_none {P : Program} {fn : Func} (hr : fn.results = #[]) (a : Array Value) (h : AH) : aresults P fn a h = some undef := by
  simp [aresults, hr, aresL, undef]
theorem aresults_cell {P : Program} {fn : Func} {t : Nat} {ty : TypeId} (hr : fn.results = #[.cell t ty]) (a : Array Value) (h : AH) : aresults P fn a h = aload P h ty (a.getD t junk) := by
  simp only [aresults, hr, aresL, ares1]
  cases aload P h ty (a.getD t junk) <;> rfl
theorem aresults_tmp2 {P : Program} {fn : Func} {t u : Nat} (hr : fn.results = #[.tmp t, .tmp u]) (a : Array Value) (h : AH) : aresults P fn a h = some (.tuple #[a.getD t junk, a.getD u junk]) := by
  simp [aresults, hr, aresL, ares1]
theorem aresults_cell_tmp {P : Program} {fn : Func} {t u : Nat} {ty : TypeId} {v : Value} (hr : fn.results = #[.cell t ty, .tmp u]) (a : Array Value) (h : AH) (hv : aload P h ty (a.getD t junk) = some v) : aresults P fn a h = some (.tuple #[v, a.getD u junk]) := by
  simp only [aresults, hr, aresL, ares1, hv]

/-- a plain value; all that was made is dropped -/
theorem apost_plain {P : Program} {h0 h : AH} {fn : Func} {R : Value → AH → Prop} {a : Array Value} {v : Value} (hv : aresults P fn a h = some v) (hp : plainB v = true) (hk : keeps h0 h) (hR : R v h0) : apost P h0 fn R .ret a h :=
  ⟨v, v, h0, hv, ForgetV.eases (.inr ⟨id, GC.drop hk.1 hk.2, plain_ren hp⟩), hR⟩
theorem apost_plain_n {P : Program} {h0 h : AH} {fn : Func} {R : Value → AH → Prop} {a : Array Value} {v : Value} (hv : aresults P fn a h = some v) (hp : plainB v = true) (hk : keeps h0 h) (hR : R v h0) : apost P h0 fn R .normal a h :=
  ⟨v, v, h0, hv, ForgetV.eases (.inr ⟨id, GC.drop hk.1 hk.2, plain_ren hp⟩), hR⟩

theorem plain_ren_tuple {σ : Nat → Nat} {L : Nat} {l : List Value} (h : l.all plainB = true) : VRen σ L (.tuple l.toArray) (.tuple l.toArray) := by
  refine .tuple _ _ rfl fun i => ?_
  rw [List.all_eq_true] at h
  by_cases hi : i < l.length
  · have : (l.toArray).getD i junk = l[i] := by simp [Array.getD, hi]
    rw [this]
    exact plain_ren (h _ (List.getElem_mem hi))
  · rw [getD_ge i (by simpa using hi)]; exact .junk _

/-- several plain values -/
theorem apost_tuple {P : Program} {h0 h : AH} {fn : Func} {R : Value → AH → Prop} {a : Array Value} {l : List Value} (hv : aresults P fn a h = some (.tuple l.toArray)) (hp : l.all plainB = true) (hk : keeps h0 h) (hR : R (.tuple l.toArray) h0) : apost P h0 fn R .ret a h :=
  ⟨_, _, h0, hv, ForgetV.eases (.inr ⟨id, GC.drop hk.1 hk.2, plain_ren_tuple hp⟩), hR⟩

/-- which new blocks are kept, and in which order -/
def pick (n : Nat) (js : List Nat) (b : Nat) : Nat := if b < n then b else n + js.getD (b - n) (b - n)

theorem pick_lt (n : Nat) (js : List Nat) (b : Nat) (h : b < n) : pick n js b = b := by simp [pick, h]
theorem pick_new (n : Nat) (js : List Nat) (k : Nat) : pick n js (n + k) = n + js.getD k k := by
  unfold pick; rw [if_neg (by omega)]; congr 2 <;> omega

theorem GC.pick {h0 t t1 : AH} (js : List Nat) (hl : js.length = t1.length) (hnd : js.Nodup)
    (hobj : ∀ i o1, t1[i]? = some o1 → o1.alive = true → ∃ o, t[js.getD i i]? = some o ∧ ORen (pick h0.length js) (h0.length + t1.length) o1 o) : GC h0 (pick h0.length js) (h0 ++ t) (h0 ++ t1) := by
  refine ⟨by simp, fun b hb => pick_lt _ _ _ hb, fun b o1 hb ha => ?_, fun b b' hb hb' e => ?_⟩
  · by_cases hlt : b < h0.length
    · rw [List.getElem?_append_left hlt] at hb
      exact ⟨o1, by rw [pick_lt _ _ _ hlt, List.getElem?_append_left hlt]; exact hb, .inl ⟨hlt, hb, rfl⟩⟩
    · obtain ⟨k, rfl⟩ : ∃ k, b = h0.length + k := ⟨b - h0.length, by omega⟩
      rw [at_new] at hb
      obtain ⟨o, h1, h2⟩ := hobj k o1 hb ha
      exact ⟨o, by rw [pick_new, at_new]; exact h1, .inr (by simpa using h2)⟩
  · simp only [List.length_append] at hb hb'
    by_cases h1 : b < h0.length <;> by_cases h2 : b' < h0.length
    · rw [pick_lt _ _ _ h1, pick_lt _ _ _ h2] at e; exact e
    · obtain ⟨k, rfl⟩ : ∃ k, b' = h0.length + k := ⟨b' - h0.length, by omega⟩
      rw [pick_lt _ _ _ h1, pick_new] at e; omega
    · obtain ⟨k, rfl⟩ : ∃ k, b = h0.length + k := ⟨b - h0.length, by omega⟩
      rw [pick_lt _ _ _ h2, pick_new] at e; omega
    · obtain ⟨k, rfl⟩ : ∃ k, b = h0.length + k := ⟨b - h0.length, by omega⟩
      obtain ⟨k', rfl⟩ : ∃ k, b' = h0.length + k := ⟨b' - h0.length, by omega⟩
      rw [pick_new, pick_new] at e
      have hk : k < js.length := by omega
      have hk' : k' < js.length := by omega
      have e2 : js[k] = js[k'] := by
        have : js.getD k k = js.getD k' k' := by omega
        simpa [List.getD, hk, hk'] using this
      have := (List.getElem_inj hnd).1 e2
      omega

/-- rows of plain cells are said as they are -/
theorem oren_plain {σ : Nat → Nat} {L : Nat} {c : Array Value} {es : Nat} {rw : Bool} (h : c.all plain1 = true) : ORen σ L (.cells c es rw) (.cells c es rw) :=
  ⟨c, rfl, rfl, fun i => by
    by_cases hi : i < c.size
    · exact .plain _ (getD_all h i hi)
    · rw [getD_ge i hi]; exact .junk _⟩

/-- one new block is kept -/
theorem GC.one {h0 t : AH} (j : Nat) (o1 : AObj) (hobj : ∃ o, t[j]? = some o ∧ ORen (Am.pick h0.length [j]) (h0.length + 1) o1 o) : GC h0 (Am.pick h0.length [j]) (h0 ++ t) (h0 ++ [o1]) :=
  GC.pick [j] rfl (by simp) (fun i o1' hi ha => by
    cases i with
    | zero => simp at hi; subst hi; exact hobj
    | succ i => simp at hi)

/-- a slice over a new row of plain cells, which is kept alone -/
theorem apost_slice {P : Program} {h0 t : AH} {fn : Func} {R : Value → AH → Prop} {a : Array Value} {k o len cap es : Nat} {c : Array Value} {rw : Bool} (hv : aresults P fn a (h0 ++ t) = some (.slice (some ⟨h0.length + k, o, none⟩) len cap))
    (ht : t[k]? = some (.cells c es rw)) (hp : c.all plain1 = true) (hR : R (.slice (some ⟨h0.length, o, none⟩) len cap) (h0 ++ [.cells c es rw])) : apost P h0 fn R .ret a (h0 ++ t) := by
  refine ⟨_, _, _, hv, ForgetV.eases (.inr ⟨pick h0.length [k], GC.one k _ ⟨_, ht, oren_plain hp⟩, .slice _ _ _ _ _ (by simp) ?_⟩), hR⟩
  have := pick_new h0.length [k] 0
  simpa using this.symm

end Go.Am
