import Derived.Test.YtogefnepdjkioaaAm4
set_option linter.unusedVariables false
set_option linter.unusedSimpArgs false
/- Parts, addresses, slices. -/
namespace Go.Am
open Go

def apart (P : Program) (t : TypeId) (cs : Array Value) (off : Nat) : Option Value :=
  match P.underlying t, P.info? t with
  | some d, some i => if isAggD d then (if off + i.size ≤ cs.size then some (.agg (cs.extract off (off + i.size))) else none) else cs[off]?
  | _, _ => none

theorem getD_extract (c : Array Value) (o n i : Nat) (h : o + n ≤ c.size) : (c.extract o (o + n)).getD i junk = if i < n then c.getD (o + i) junk else junk := by
  by_cases hi : i < n
  · have h1 : o + i < c.size := by omega
    have h3 : i < min (o + n) c.size - o := by omega
    simp [Array.getD, h1, h3, hi]
  · rw [getD_ge i (by simp; omega), if_neg hi]

theorem sound_part {P : Program} {f : Emb} {L : Nat} (w : World) {t : TypeId} {cs ds : Array Value} (hc : CRel f L cs ds) {off : Nat} {r : Value} (ha : apart P t cs off = some r) :
    ∃ r', (part t ds off).run P w = .ok r' w ∧ VRel f L r r' := by
  unfold apart at ha
  split at ha
  · rename_i d i hu hi
    split at ha
    · rename_i hagg
      split at ha
      · rename_i hle
        simp only [Option.some.injEq] at ha
        subst ha
        refine ⟨.agg (ds.extract off (off + i.size)), ?_, ?_⟩
        · simp only [part, Sem.run_bind, run_isAgg hu, Result.andThen_ok, hagg, if_true, run_sizeOf w hi, Program.cellsOf, hi, Option.map_some, Option.getD_some, Sem.run_pure]
        · have hle' : off + i.size ≤ ds.size := hc.1 ▸ hle
          refine .agg _ _ (by simp; omega) (fun j => ?_) (fun j => ?_)
          · rw [getD_extract _ _ _ _ hle, getD_extract _ _ _ _ hle']
            split
            · exact (hc.2 _).1
            · exact .junk _
          · rw [getD_extract _ _ _ _ hle']
            split
            · exact (hc.2 _).2
            · rfl
      · cases ha
    · rename_i hagg
      simp only [Bool.not_eq_true] at hagg
      have hlt : off < cs.size := (Array.getElem?_eq_some_iff.1 ha).1
      have hlt' : off < ds.size := hc.1 ▸ hlt
      have he : cs.getD off junk = r := by have := (Array.getElem?_eq_some_iff.1 ha).2; simp [Array.getD, hlt, this]
      refine ⟨ds.getD off junk, ?_, he ▸ (hc.2 off).1⟩
      have : ds[off]? = some (ds.getD off junk) := by simp [Array.getD, hlt']
      simp only [part, Sem.run_bind, run_isAgg hu, Result.andThen_ok, hagg, Bool.false_eq_true, if_false, this, Sem.run_pure]
  · cases ha

theorem VRel.agg_inv {f : Emb} {L : Nat} {cs : Array Value} {v' : Value} (h : VRel f L (.agg cs) v') : ∃ ds, v' = .agg ds ∧ CRel f L cs ds := by
  generalize hv : Value.agg cs = v at h
  cases h with
  | agg xs ys hx hxy hone => cases hv; exact ⟨ys, rfl, hx, fun i => ⟨hxy i, hone i⟩⟩
  | junk => simp [Am.junk] at hv
  | _ => cases hv

theorem VRel.int_inv {f : Emb} {L : Nat} {k : IntKind} {n : Int} {v' : Value} (h : VRel f L (.int k n) v') : v' = .int k n := plain_inv rfl h
theorem VRel.bool_inv {f : Emb} {L : Nat} {b : Bool} {v' : Value} (h : VRel f L (.bool b) v') : v' = .bool b := plain_inv rfl h
theorem VRel.string_inv {f : Emb} {L : Nat} {s : ByteArray} {v' : Value} (h : VRel f L (.string s) v') : v' = .string s := plain_inv rfl h
theorem VRel.ptr_inv {f : Emb} {L : Nat} {b o : Nat} {v' : Value} (h : VRel f L (.pointer (some ⟨b, o, none⟩)) v') : v' = .pointer (some ⟨(f b).blk, (f b).off + o, none⟩) ∧ b < L := by
  generalize hv : Value.pointer (some ⟨b, o, none⟩) = v at h
  cases h with
  | ptr b' o' r o'' hb hr ho => cases hv; subst hr; subst ho; exact ⟨rfl, hb⟩
  | junk => simp [Am.junk] at hv
  | _ => cases hv
theorem VRel.tuple_inv {f : Emb} {L : Nat} {cs : Array Value} {v' : Value} (h : VRel f L (.tuple cs) v') : ∃ ds, v' = .tuple ds ∧ ARel f L cs ds := by
  generalize hv : Value.tuple cs = v at h
  cases h with
  | tuple xs ys hx hxy => cases hv; exact ⟨ys, rfl, hx, hxy⟩
  | junk => simp [Am.junk] at hv
  | _ => cases hv

def afield (P : Program) (t : TypeId) (x : Value) (k : Nat) : Option Value :=
  match P.underlying t, x with
  | some (.struct fields), .agg cs => match fields[k]? with
    | some fd => apart P fd.type cs fd.offset
    | none => none
  | _, _ => none

theorem sound_field {P : Program} {f : Emb} {L : Nat} (w : World) {t : TypeId} {x x' : Value} (hx : VRel f L x x') {k : Nat} {r : Value} (ha : afield P t x k = some r) :
    ∃ r', (Instr.field t x' k).run P w = .ok r' w ∧ VRel f L r r' := by
  unfold afield at ha
  split at ha
  · rename_i fields cs hu
    obtain ⟨ds, rfl, hc⟩ := hx.agg_inv
    split at ha
    · rename_i fd hfd
      obtain ⟨r', h1, h2⟩ := sound_part w hc ha
      exact ⟨r', by simp only [Instr.field, Sem.run_bind, run_underlying hu, Result.andThen_ok, hfd, asAgg, Sem.run_pure, h1], h2⟩
    · cases ha
  · cases ha

def aindex (P : Program) (t : TypeId) (x ix : Value) : Option Value :=
  match P.underlying t, x, ix with
  | some (.array n elem), .agg cs, .int _ i => match P.info? elem with
    | some ie => if 0 ≤ i ∧ i < n then apart P elem cs (i.toNat * ie.size) else none
    | none => none
  | some .string, .string s, .int _ i => if 0 ≤ i then (s[i.toNat]?).map (fun b => .int .u8 b.toNat) else none
  | _, _, _ => none

theorem sound_index {P : Program} {f : Emb} {L : Nat} (w : World) {t : TypeId} {x x' ix ix' : Value} (hx : VRel f L x x') (hi : VRel f L ix ix') {r : Value} (ha : aindex P t x ix = some r) :
    ∃ r', (Instr.index t x' ix').run P w = .ok r' w ∧ VRel f L r r' := by
  unfold aindex at ha
  split at ha
  · rename_i n elem cs k i hu
    cases hi.int_inv
    obtain ⟨ds, rfl, hc⟩ := hx.agg_inv
    split at ha
    · rename_i ie hie
      split at ha
      · rename_i hb
        obtain ⟨r', h1, h2⟩ := sound_part w hc ha
        have hsz : P.cellsOf elem = ie.size := by simp [Program.cellsOf, hie]
        refine ⟨r', ?_, h2⟩
        simp only [Instr.index, Sem.run_bind, asIntOf, Sem.run_pure, Result.andThen_ok, run_underlying hu, hb, and_self, if_true, run_sizeOf w hie, hsz, h1]
      · cases ha
    · cases ha
  · rename_i s k i hu
    cases hi.int_inv
    cases hx.string_inv
    split at ha
    · rename_i h0
      simp only [Option.map_eq_some_iff] at ha
      obtain ⟨b, hb, rfl⟩ := ha
      refine ⟨_, ?_, .int _ _⟩
      simp only [Instr.index, Sem.run_bind, asIntOf, Sem.run_pure, Result.andThen_ok, run_underlying hu, h0, if_true, hb]
    · cases ha
  · cases ha

def afieldAddr (P : Program) (t : TypeId) (x : Value) (k : Nat) : Option Value :=
  match P.underlying t, x with
  | some (.struct fields), .func (.yield 1) cs ks => match fields[k]?, fzN ks with
    | some fd, some j => match P.info? fd.type with
      | some i => if i.size = 0 then none else some (fp cs (j + fd.offset))
      | none => none
    | _, _ => none
  | some (.struct fields), .pointer (some ⟨b, o, none⟩) => match fields[k]? with
    | some fd => match P.info? fd.type with
      | some i => if i.size = 0 then none else some (.pointer (some ⟨b, o + fd.offset, none⟩))
      | none => none
    | none => none
  | _, _ => none

theorem VRel.fp_inv {f : Emb} {L : Nat} {cs ks : Array Value} {v' : Value} (h : VRel f L (.func (.yield 1) cs ks) v') : ∃ (k r o : Nat) (ds : Array Value), ks = #[.int .i64 k] ∧ v' = .pointer (some ⟨r, o + k, none⟩) ∧
    f.rom r = some ds ∧ o + cs.size ≤ ds.size ∧ (∀ i : Nat, VRel f L (cs.getD i Am.junk) (if i < cs.size then ds.getD (o + i) Am.junk else Am.junk)) ∧ ∀ i : Nat, i < cs.size → (ds.getD (o + i) Am.junk).oneCell' = true := by
  generalize hv : Value.func (.yield 1) cs ks = v at h
  cases h with
  | fp cs k r o o' ds hrom hle ho hxy hone => cases hv; subst ho; exact ⟨k, r, o, ds, rfl, rfl, hrom, hle, hxy, hone⟩
  | func fn xs ys cs ds hfn => cases hv; cases hfn
  | junk => simp [Am.junk] at hv
  | _ => cases hv

theorem VRel.fz_inv {f : Emb} {L : Nat} {cs ks : Array Value} {v' : Value} (h : VRel f L (.func (.yield 0) cs ks) v') : ∃ n : Nat, ks = #[.int .i64 n] ∧ ((∃ (r o c : Nat) (ds : Array Value), v' = .slice (some ⟨r, o, none⟩) n c ∧
    f.rom r = some ds ∧ o + cs.size ≤ ds.size ∧ n ≤ c ∧ (∀ i : Nat, VRel f L (cs.getD i Am.junk) (if i < cs.size then ds.getD (o + i) Am.junk else Am.junk)) ∧ ∀ i : Nat, i < cs.size → (ds.getD (o + i) Am.junk).oneCell' = true) ∨
    (n = 0 ∧ cs = #[] ∧ ∃ a c, v' = .slice (some a) 0 c)) := by
  generalize hv : Value.func (.yield 0) cs ks = v at h
  cases h with
  | fz cs n r o c ds hrom hle hn hxy hone => cases hv; exact ⟨n, rfl, .inl ⟨r, o, c, ds, rfl, hrom, hle, hn, hxy, hone⟩⟩
  | fz0 a c => cases hv; exact ⟨0, rfl, .inr ⟨rfl, rfl, a, c, rfl⟩⟩
  | func fn xs ys cs ds hfn => cases hv; cases hfn
  | junk => simp [Am.junk] at hv
  | _ => cases hv

theorem fzN_some {ks : Array Value} {n j : Nat} (h : ks = #[.int .i64 n]) (hj : fzN ks = some j) : j = n := by subst h; rw [fzN_lit] at hj; cases hj; rfl

theorem sound_fieldAddr {P : Program} {f : Emb} {L : Nat} (w : World) {t : TypeId} {x x' : Value} (hx : VRel f L x x') {k : Nat} {r : Value} (ha : afieldAddr P t x k = some r) :
    ∃ r', (Instr.fieldAt t x' k).run P w = .ok r' w ∧ VRel f L r r' := by
  unfold afieldAddr at ha
  split at ha
  · rename_i fields cs ks hu
    obtain ⟨k0, r0, o0, ds, rfl, rfl, hrom, hle, hxy, hone⟩ := hx.fp_inv
    rw [fzN_lit] at ha
    split at ha
    · rename_i fd j hfd hj
      cases hj
      split at ha
      · rename_i i hi
        split at ha
        · cases ha
        · rename_i hne
          simp only [Option.some.injEq] at ha
          subst ha
          have hsz : ¬ (P.cellsOf fd.type = 0) := by simpa [Program.cellsOf, hi] using hne
          refine ⟨.pointer (some ⟨r0, o0 + (k0 + fd.offset), none⟩), ?_, .fp cs _ r0 o0 _ ds hrom hle rfl hxy hone⟩
          simp only [Instr.fieldAt, Sem.run_bind, run_underlying hu, Result.andThen_ok, hfd, Instr.sureAddr, Sem.run_pure, fieldPlace, run_sizeOf w hi, hsz, if_false, addr_add, Nat.add_assoc]
      · cases ha
    · cases ha
  · rename_i fields b o hu
    obtain ⟨rfl, hb⟩ := hx.ptr_inv
    split at ha
    · rename_i fd hfd
      split at ha
      · rename_i i hi
        split at ha
        · cases ha
        · rename_i hne
          simp only [Option.some.injEq] at ha
          subst ha
          have hsz : ¬ (P.cellsOf fd.type = 0) := by simpa [Program.cellsOf, hi] using hne
          refine ⟨.pointer (some ⟨(f b).blk, (f b).off + (o + fd.offset), none⟩), ?_, .ptr b _ _ _ hb rfl rfl⟩
          simp only [Instr.fieldAt, Sem.run_bind, run_underlying hu, Result.andThen_ok, hfd, Instr.sureAddr, Sem.run_pure, fieldPlace, run_sizeOf w hi, hsz, if_false, addr_add, Nat.add_assoc]
      · cases ha
    · cases ha
  · cases ha

def aindexAddr (P : Program) (t : TypeId) (x ix : Value) : Option Value :=
  match P.underlying t, x, ix with
  | some (.array n elem), .func (.yield 1) cs ks, .int _ i => match P.info? elem, fzN ks with
    | some ie, some j => if 0 ≤ i ∧ i < n then some (fp cs (j + i.toNat * ie.size)) else none
    | _, _ => none
  | some (.slice elem), .func (.yield 0) cs ks, .int _ i => match P.info? elem, fzN ks with
    | some ie, some len => if 0 ≤ i ∧ i < len then some (fp cs (i.toNat * ie.size)) else none
    | _, _ => none
  | some (.array n elem), .pointer (some ⟨b, o, none⟩), .int _ i => match P.info? elem with
    | some ie => if 0 ≤ i ∧ i < n then some (.pointer (some ⟨b, o + i.toNat * ie.size, none⟩)) else none
    | none => none
  | some (.slice elem), .slice (some ⟨b, o, none⟩) len _, .int _ i => match P.info? elem with
    | some ie => if 0 ≤ i ∧ i < len then some (.pointer (some ⟨b, o + i.toNat * ie.size, none⟩)) else none
    | none => none
  | _, _, _ => none

theorem VRel.slice_inv {f : Emb} {L : Nat} {b o l c : Nat} {v' : Value} (h : VRel f L (.slice (some ⟨b, o, none⟩) l c) v') :
    (∃ c', v' = .slice (some ⟨(f b).blk, (f b).off + o, none⟩) l c' ∧ b < L ∧ CapRel (f b) o c c') ∨ (l = 0 ∧ c = 0 ∧ ∃ a', v' = .slice (some a') 0 0 ∧ b < L) := by
  generalize hv : Value.slice (some ⟨b, o, none⟩) l c = v at h
  cases h with
  | slice b' o' l' c1 c' r o'' hb hr ho hc => cases hv; subst hr; subst ho; exact .inl ⟨c', rfl, hb, hc⟩
  | slice0 a a' hb => cases hv; exact .inr ⟨rfl, rfl, a', rfl, hb⟩
  | junk => simp [Am.junk] at hv
  | _ => cases hv

theorem sound_indexAddr {P : Program} {f : Emb} {L : Nat} (w : World) {t : TypeId} {x x' ix ix' : Value} (hx : VRel f L x x') (hi : VRel f L ix ix') {r : Value} (ha : aindexAddr P t x ix = some r) :
    ∃ r', (Instr.indexAt t x' ix').run P w = .ok r' w ∧ VRel f L r r' := by
  unfold aindexAddr at ha
  split at ha
  · rename_i n elem cs ks k i hu
    cases hi.int_inv
    obtain ⟨k0, r0, o0, ds, rfl, rfl, hrom, hle, hxy, hone⟩ := hx.fp_inv
    rw [fzN_lit] at ha
    split at ha
    · rename_i ie j hie hj
      cases hj
      split at ha
      · rename_i hbd
        simp only [Option.some.injEq] at ha
        subst ha
        have hsz : P.cellsOf elem = ie.size := by simp [Program.cellsOf, hie]
        refine ⟨.pointer (some ⟨r0, o0 + (k0 + i.toNat * ie.size), none⟩), ?_, .fp cs _ r0 o0 _ ds hrom hle rfl hxy hone⟩
        simp only [Instr.indexAt, Sem.run_bind, asIntOf, Sem.run_pure, Result.andThen_ok, run_underlying hu, Instr.sureAddr, hbd, and_self, if_true, run_sizeOf w hie, hsz, addr_add, Nat.add_assoc]
      · cases ha
    · cases ha
  · rename_i elem cs ks k i hu
    cases hi.int_inv
    obtain ⟨n0, rfl, hc⟩ := hx.fz_inv
    rw [fzN_lit] at ha
    split at ha
    · rename_i ie j hie hj
      cases hj
      split at ha
      · rename_i hbd
        simp only [Option.some.injEq] at ha
        subst ha
        rcases hc with ⟨r0, o0, c0, ds, rfl, hrom, hle, hn, hxy, hone⟩ | ⟨rfl, _⟩
        · have hsz : P.cellsOf elem = ie.size := by simp [Program.cellsOf, hie]
          refine ⟨.pointer (some ⟨r0, o0 + i.toNat * ie.size, none⟩), ?_, .fp cs _ r0 o0 _ ds hrom hle rfl hxy hone⟩
          simp only [Instr.indexAt, Sem.run_bind, asIntOf, Sem.run_pure, Result.andThen_ok, run_underlying hu, hbd, and_self, if_true, run_sizeOf w hie, hsz, addr_add, Nat.add_assoc]
        · omega
      · cases ha
    · cases ha
  · rename_i n elem b o k i hu
    cases hi.int_inv
    obtain ⟨rfl, hb⟩ := hx.ptr_inv
    split at ha
    · rename_i ie hie
      split at ha
      · rename_i hbd
        simp only [Option.some.injEq] at ha
        subst ha
        have hsz : P.cellsOf elem = ie.size := by simp [Program.cellsOf, hie]
        refine ⟨.pointer (some ⟨(f b).blk, (f b).off + (o + i.toNat * ie.size), none⟩), ?_, .ptr b _ _ _ hb rfl rfl⟩
        simp only [Instr.indexAt, Sem.run_bind, asIntOf, Sem.run_pure, Result.andThen_ok, run_underlying hu, Instr.sureAddr, hbd, and_self, if_true, run_sizeOf w hie, hsz, addr_add, Nat.add_assoc]
      · cases ha
    · cases ha
  · rename_i elem b o len cap k i hu
    cases hi.int_inv
    split at ha
    · rename_i ie hie
      split at ha
      · rename_i hbd
        simp only [Option.some.injEq] at ha
        subst ha
        rcases hx.slice_inv with ⟨c', rfl, hb, hc⟩ | ⟨rfl, rfl, a', rfl, hbL⟩
        · have hsz : P.cellsOf elem = ie.size := by simp [Program.cellsOf, hie]
          refine ⟨.pointer (some ⟨(f b).blk, (f b).off + (o + i.toNat * ie.size), none⟩), ?_, .ptr b _ _ _ hb rfl rfl⟩
          simp only [Instr.indexAt, Sem.run_bind, asIntOf, Sem.run_pure, Result.andThen_ok, run_underlying hu, hbd, and_self, if_true, run_sizeOf w hie, hsz, addr_add, Nat.add_assoc]
        · omega
      · cases ha
    · cases ha
  · cases ha

def aextract (x : Value) (k : Nat) : Option Value :=
  match x with
  | .tuple vs => vs[k]?
  | _ => none

theorem sound_extract {P : Program} {f : Emb} {L : Nat} (w : World) {x x' : Value} (hx : VRel f L x x') {k : Nat} {r : Value} (ha : aextract x k = some r) :
    ∃ r', (Instr.extract x' k).run P w = .ok r' w ∧ VRel f L r r' := by
  unfold aextract at ha
  split at ha
  · rename_i vs
    obtain ⟨ds, rfl, hr⟩ := hx.tuple_inv
    have hlt : k < vs.size := (Array.getElem?_eq_some_iff.1 ha).1
    have hlt' : k < ds.size := hr.1 ▸ hlt
    have he : vs.getD k junk = r := by have := (Array.getElem?_eq_some_iff.1 ha).2; simp [Array.getD, hlt, this]
    refine ⟨ds.getD k junk, ?_, he ▸ hr.2 k⟩
    have : ds[k]? = some (ds.getD k junk) := by simp [Array.getD, hlt']
    simp only [Instr.extract, this, Sem.run_pure]
  · cases ha

/-! ### slicing -/
def abound (v : Option Value) (d : Nat) (top : Nat) : Option Nat :=
  match v with
  | none => some d
  | some (.int _ i) => if 0 ≤ i ∧ i ≤ top then some i.toNat else none
  | _ => none

/-- low and high, in whatever they are bounded by -/
def abounds (len cap : Nat) (lo hi : Option Value) : Option (Nat × Nat) :=
  match abound hi len cap with
  | some h => match abound lo 0 h with
    | some l => some (l, h)
    | none => none
  | none => none

def OptRel (f : Emb) (L : Nat) : Option Value → Option Value → Prop
  | none, none => True
  | some v, some v' => VRel f L v v'
  | _, _ => False

theorem run_bounds {P : Program} {f : Emb} {L : Nat} (w : World) (isSl : Bool) {len cap cap' : Nat} (hcc : cap ≤ cap') (hlc : len ≤ cap') {lo hi lo' hi' : Option Value} (hl : OptRel f L lo lo') (hh : OptRel f L hi hi')
    {l h : Nat} (ha : abounds len cap lo hi = some (l, h)) : (Instr.sliceBounds isSl len cap' lo' hi' none).run P w = .ok (l, h, cap') w ∧ l ≤ h ∧ (h ≤ cap ∨ (h = len ∧ hi = none)) := by
  unfold abounds at ha
  split at ha
  · rename_i h1 hh1
    split at ha
    · rename_i l1 hl1
      simp only [Option.some.injEq, Prod.mk.injEq] at ha
      obtain ⟨rfl, rfl⟩ := ha
      have hlow : (match lo' with | some v => Instr.sliceBound v h1 (if (none : Option Value).isSome then .slice3C else .sliceB) | none => pure 0 : Sem Nat).run P w = .ok l1 w ∧ l1 ≤ h1 := by
        cases lo <;> cases lo' <;> simp only [OptRel] at hl
        · simp only [abound, Option.some.injEq] at hl1; subst hl1; exact ⟨rfl, Nat.zero_le _⟩
        · rename_i v v'
          simp only [abound] at hl1
          split at hl1
          · simp at *
          · rename_i v0 kk i he
            simp only [Option.some.injEq] at he
            subst he
            split at hl1
            · rename_i hb
              simp only [Option.some.injEq] at hl1
              subst hl1
              cases hl.int_inv
              refine ⟨?_, by omega⟩
              simp only [Instr.sliceBound, Sem.run_bind, asIntOf, Sem.run_pure, Result.andThen_ok, hb, and_self, if_true]
            · cases hl1
          · cases hl1
      have hhigh : (match hi', (none : Option Value) with
          | some v, some _ => Instr.sliceBound v cap' .slice3B
          | some v, none => Instr.sliceBound v cap' (if isSl then .sliceAcap else .sliceAlen)
          | none, none => pure len
          | none, some _ => stuck "Slice: max without high" : Sem Nat).run P w = .ok h1 w ∧ (h1 ≤ cap ∨ (h1 = len ∧ hi = none)) := by
        cases hi <;> cases hi' <;> simp only [OptRel] at hh
        · simp only [abound, Option.some.injEq] at hh1; subst hh1; exact ⟨rfl, .inr ⟨rfl, rfl⟩⟩
        · rename_i v v'
          simp only [abound] at hh1
          split at hh1
          · simp at *
          · rename_i v0 kk i he
            simp only [Option.some.injEq] at he
            subst he
            split at hh1
            · rename_i hb
              simp only [Option.some.injEq] at hh1
              subst hh1
              cases hh.int_inv
              have hb' : 0 ≤ i ∧ i ≤ (cap' : Int) := by omega
              refine ⟨?_, .inl (by omega)⟩
              simp only [Instr.sliceBound, Sem.run_bind, asIntOf, Sem.run_pure, Result.andThen_ok, hb', and_self, if_true]
            · cases hh1
          · cases hh1
      refine ⟨?_, hlow.2, hhigh.2⟩
      have e1 := hlow.1
      have e2 := hhigh.1
      simp only [Instr.sliceBounds, Sem.run_bind, Sem.run_pure, Result.andThen_ok]
      cases hi' <;> cases lo' <;> simp_all
    · cases ha
  · cases ha

/-- a slice of a slice: the row's element size is the heap's -/
def asliceS (h : AH) (size : Nat) (b o len cap : Nat) (lo hi : Option Value) : Option Value :=
  match h[b]? with
  | some (.cells _ es _) => if es = 0 ∨ es = size then
      match abounds len cap lo hi with
      | some (l, hh) => if hh ≤ cap ∧ len ≤ cap then some (.slice (some ⟨b, o + l * size, none⟩) (hh - l) (cap - l)) else none
      | none => none
    else none
  | _ => none

def aslice (P : Program) (h : AH) (t : TypeId) (x : Value) (lo hi : Option Value) : Option Value :=
  match P.underlying t, x with
  | some (.slice elem), .func (.yield 0) cs ks => match P.info? elem, fzN ks with
    | some ie, some len => match abounds len len lo hi with
      | some (l, hh) => if hh * ie.size ≤ cs.size then some (fz (cs.extract (l * ie.size) (hh * ie.size)) (hh - l)) else none
      | none => none
    | _, _ => none
  | some (.array n elem), .func (.yield 1) cs ks => match P.info? elem, fzN ks with
    | some ie, some j => match abounds n n lo hi with
      | some (l, hh) => if l = n ∨ cs.size < j + hh * ie.size then none else some (fz (cs.extract (j + l * ie.size) (j + hh * ie.size)) (hh - l))
      | none => none
    | _, _ => none
  | some (.slice elem), .slice (some ⟨b, o, none⟩) len cap => match P.info? elem with
    | some ie => asliceS h ie.size b o len cap lo hi
    | none => none
  | some (.slice elem), .slice none 0 0 => match abounds 0 0 lo hi, P.info? elem with
    | some _, some _ => some (.slice none 0 0)
    | _, _ => none
  | some .string, .string s => match abounds s.size s.size lo hi with
    | some (l, hh) => some (.string (s.extract l hh))
    | none => none
  | some (.array n elem), .pointer (some ⟨b, o, none⟩) => match P.info? elem with
    | some ie => match abounds n n lo hi with
      | some (l, hh) => if l = n then none else some (.slice (some ⟨b, o + l * ie.size, none⟩) (hh - l) (n - l))
      | none => none
    | none => none
  | _, _ => none

theorem addr_add' (a : Addr) (h : a.spot = none) (j : Nat) : a.add j = ⟨a.block, a.off + j, none⟩ := by
  obtain ⟨b, o, s⟩ := a
  simp only at h
  subst h
  exact addr_add b o j

theorem sound_slice {P : Program} {f : Emb} {h : AH} {w : World} (hs : Sim P f h w) {t : TypeId} {x x' : Value} (hx : VRel f h.length x x') {lo hi lo' hi' : Option Value} (hl : OptRel f h.length lo lo') (hh : OptRel f h.length hi hi')
    {r : Value} (ha : aslice P h t x lo hi = some r) : ∃ r', (Instr.sliceAt t x' lo' hi' none).run P w = .ok r' w ∧ VRel f h.length r r' := by
  unfold aslice at ha
  split at ha
  · rename_i elem cs ks hu
    obtain ⟨n0, rfl, hcz⟩ := hx.fz_inv
    rw [fzN_lit] at ha
    split at ha
    case h_2 => cases ha
    rename_i ie j hie hj
    cases hj
    split at ha
    case h_2 => cases ha
    rename_i l h1 hbd
    split at ha
    case isFalse => cases ha
    rename_i hle1
    simp only [Option.some.injEq] at ha
    subst ha
    have hsz : P.cellsOf elem = ie.size := by simp [Program.cellsOf, hie]
    have hrun : ∀ (base : Option Addr) (cap' : Nat), n0 ≤ cap' → (Instr.sliceAt t (.slice base n0 cap') lo' hi' none).run P w =
        .ok (.slice (if cap' = l then base else base.map (·.add (l * ie.size))) (h1 - l) (cap' - l)) w ∧ l ≤ h1 ∧ h1 ≤ n0 := by
      intro base cap' hlc
      obtain ⟨e1, e2, e3⟩ := run_bounds (P := P) w true hlc hlc hl hh hbd
      refine ⟨?_, e2, by omega⟩
      simp only [Instr.sliceAt, Instr.slice, Sem.run_bind, run_underlying hu, Result.andThen_ok, e1, run_sizeOf w hie, hsz, Sem.run_pure]
    rcases hcz with ⟨r0, o0, c0, ds, rfl, hrom, hle, hn, hxy, hone⟩ | ⟨rfl, rfl, a, c0, rfl⟩
    · obtain ⟨e1, e2, e3⟩ := hrun (some ⟨r0, o0, none⟩) c0 hn
      refine ⟨_, e1, ?_⟩
      have hlh : l * ie.size ≤ h1 * ie.size := Nat.mul_le_mul_right _ e2
      by_cases hz : c0 = l
      · have : h1 - l = 0 := by omega
        have e : h1 * ie.size = l * ie.size := by rw [show h1 = l by omega]
        rw [if_pos hz, this, e]
        have hx0 : cs.extract (l * ie.size) (l * ie.size) = #[] := by simp; omega
        rw [hx0]
        exact .fz0 _ _
      · rw [if_neg hz]
        simp only [Option.map_some, addr_add]
        refine .fz _ _ _ _ _ ds hrom (by simp; omega) (by omega) (fun i => ?_) (fun i hi => ?_)
        · by_cases hi : i < (cs.extract (l * ie.size) (h1 * ie.size)).size
          · rw [if_pos hi]
            have hi2 : l * ie.size + i < cs.size := by simp at hi; omega
            have e3 : (cs.extract (l * ie.size) (h1 * ie.size)).getD i junk = cs.getD (l * ie.size + i) junk := by
              have hi3 : i < min (h1 * ie.size) cs.size - l * ie.size := by simpa using hi
              simp [Array.getD, hi2, hi3]
            have := hxy (l * ie.size + i)
            rw [if_pos hi2] at this
            rw [e3, Nat.add_assoc]
            exact this
          · rw [getD_ge i hi]; exact .junk _
        · have hi2 : l * ie.size + i < cs.size := by simp at hi; omega
          rw [Nat.add_assoc]
          exact hone _ hi2
    · obtain ⟨e1, e2, e3⟩ := hrun (some a) c0 (Nat.zero_le _)
      refine ⟨_, e1, ?_⟩
      have h0 : l = 0 := by omega
      have h10 : h1 = 0 := by omega
      subst h0; subst h10
      have hx0 : (#[] : Array Value).extract (0 * ie.size) (0 * ie.size) = #[] := by simp
      rw [hx0]
      split
      · exact .fz0 _ _
      · exact .fz0 _ _
  · rename_i n elem cs ks hu
    obtain ⟨k0, r0, o0, ds, rfl, rfl, hrom, hle, hxy, hone⟩ := hx.fp_inv
    rw [fzN_lit] at ha
    split at ha
    case h_2 => cases ha
    rename_i ie j hie hj
    cases hj
    split at ha
    case h_2 => cases ha
    rename_i l h1 hbd
    split at ha
    case isTrue => cases ha
    rename_i hle1
    simp only [Option.some.injEq] at ha
    subst ha
    have hsz : P.cellsOf elem = ie.size := by simp [Program.cellsOf, hie]
    obtain ⟨e1, e2, e3⟩ := run_bounds (P := P) w false (Nat.le_refl n) (Nat.le_refl n) hl hh hbd
    have hnl : ¬ n = l := by omega
    refine ⟨.slice (some ⟨r0, o0 + (k0 + l * ie.size), none⟩) (h1 - l) (n - l), ?_, ?_⟩
    · simp only [Instr.sliceAt, Instr.slice, Sem.run_bind, run_underlying hu, Result.andThen_ok, e1, run_sizeOf w hie, hsz, Sem.run_pure, Instr.sureAddr, hnl, if_false, Option.map_some, addr_add, Nat.add_assoc]
    · have hlh : l * ie.size ≤ h1 * ie.size := Nat.mul_le_mul_right _ e2
      refine .fz _ _ _ _ _ ds hrom (by simp; omega) (by omega) (fun i => ?_) (fun i hi => ?_)
      · by_cases hi : i < (cs.extract (k0 + l * ie.size) (k0 + h1 * ie.size)).size
        · rw [if_pos hi]
          have hi2 : k0 + l * ie.size + i < cs.size := by simp at hi; omega
          have e3 : (cs.extract (k0 + l * ie.size) (k0 + h1 * ie.size)).getD i junk = cs.getD (k0 + l * ie.size + i) junk := by
            have hi3 : i < min (k0 + h1 * ie.size) cs.size - (k0 + l * ie.size) := by simpa using hi
            simp [Array.getD, hi2, hi3]
          have := hxy (k0 + l * ie.size + i)
          rw [if_pos hi2] at this
          have e4 : o0 + (k0 + l * ie.size) + i = o0 + (k0 + l * ie.size + i) := by omega
          rw [e3, e4]
          exact this
        · rw [getD_ge i hi]; exact .junk _
      · have hi2 : k0 + l * ie.size + i < cs.size := by simp at hi; omega
        rw [Nat.add_assoc]
        exact hone _ hi2
  · rename_i elem b o len cap hu
    split at ha
    · rename_i ie hie
      unfold asliceS at ha
      split at ha
      · rename_i c es rw hb
        split at ha
        · rename_i hes
          split at ha
          · rename_i l h1 hbd
            split at ha
            · rename_i hcap
              simp only [Option.some.injEq] at ha
              subst ha
              have hsz : P.cellsOf elem = ie.size := by simp [Program.cellsOf, hie]
              obtain ⟨o', ho', c', elem', fr, rfl, g2, g3, g4, g5, g6, g7⟩ := hs.obj b _ hb rfl
              have hrun : ∀ (base : Option Addr) (cap' : Nat), cap ≤ cap' → len ≤ cap' → (Instr.sliceAt t (.slice base len cap') lo' hi' none).run P w =
                  .ok (.slice (if cap' = l then base else base.map (·.add (l * ie.size))) (h1 - l) (cap' - l)) w ∧ l ≤ h1 := by
                intro base cap' hc hlc
                obtain ⟨e1, e2, e3⟩ := run_bounds (P := P) w true hc hlc hl hh hbd
                refine ⟨?_, e2⟩
                simp only [Instr.sliceAt, Instr.slice, Sem.run_bind, run_underlying hu, Result.andThen_ok, e1, run_sizeOf w hie, hsz, Sem.run_pure]
              rcases hx.slice_inv with ⟨cap', rfl, hbL, hc⟩ | ⟨rfl, rfl, a', rfl, hbL⟩
              · have hcc : cap ≤ cap' := hc.le
                have hlen : len ≤ cap' := by omega
                obtain ⟨e1, e2⟩ := hrun (some ⟨(f b).blk, (f b).off + o, none⟩) cap' hcc hlen
                refine ⟨_, e1, ?_⟩
                by_cases hz : cap' = l
                · have h1l : h1 - l = 0 := by omega
                  have hcl : cap - l = 0 := by omega
                  have hcl' : cap' - l = 0 := by omega
                  rw [if_pos hz, h1l, hcl, hcl']
                  exact .slice0 _ _ hbL
                · rw [if_neg hz]
                  simp only [Option.map_some, addr_add]
                  refine .slice b _ _ _ _ _ _ hbL rfl (by omega) ?_
                  rcases hc with rfl | ⟨k1, k2, k3, k4⟩
                  · exact .inl rfl
                  · refine .inr ⟨k1, ?_, ?_, by omega⟩
                    · have hes' : (f b).es = ie.size := by rcases hes with hes | hes <;> omega
                      rw [hes'] at k2 ⊢
                      have : (cap - l) * ie.size = cap * ie.size - l * ie.size := Nat.sub_mul ..
                      have : l * ie.size ≤ cap * ie.size := Nat.mul_le_mul_right _ (by omega)
                      omega
                    · have hes' : (f b).es = ie.size := by rcases hes with hes | hes <;> omega
                      rw [hes'] at k3 ⊢
                      have : (cap' - l) * ie.size = cap' * ie.size - l * ie.size := Nat.sub_mul ..
                      have : l * ie.size ≤ cap' * ie.size := Nat.mul_le_mul_right _ (by omega)
                      omega
              · obtain ⟨e1, e2⟩ := hrun (some a') 0 (Nat.le_refl _) (Nat.le_refl _)
                refine ⟨_, e1, ?_⟩
                have : l = 0 := by omega
                subst this
                have : h1 = 0 := by omega
                subst this
                simp only [if_true, Nat.sub_self]
                exact .slice0 _ _ hbL
            · cases ha
          · cases ha
        · cases ha
      · cases ha
    · cases ha
  · rename_i elem hu
    split at ha
    · rename_i lh ie hbd hie
      obtain ⟨l, h1⟩ := lh
      simp only [Option.some.injEq] at ha
      subst ha
      have hx' : x' = .slice none 0 0 := plain_inv rfl hx
      subst hx'
      obtain ⟨e1, e2, e3⟩ := run_bounds (P := P) w true (Nat.le_refl 0) (Nat.le_refl 0) hl hh hbd
      have hh0 : h1 = 0 := by omega
      have hl0 : l = 0 := by omega
      subst hh0; subst hl0
      refine ⟨.slice none 0 0, ?_, .nilSlice 0 0⟩
      simp only [Instr.sliceAt, Instr.slice, Sem.run_bind, run_underlying hu, Result.andThen_ok, e1, run_sizeOf w hie, Sem.run_pure, if_true, Nat.sub_self]
    · cases ha
  · rename_i s hu
    split at ha
    · rename_i l h1 hbd
      simp only [Option.some.injEq] at ha
      subst ha
      cases hx.string_inv
      obtain ⟨e1, e2, e3⟩ := run_bounds (P := P) w false (Nat.le_refl s.size) (Nat.le_refl s.size) hl hh hbd
      refine ⟨_, ?_, .string _⟩
      simp only [Instr.sliceAt, Instr.slice, Sem.run_bind, run_underlying hu, Result.andThen_ok, e1, Option.isSome_none, Bool.false_eq_true, if_false, Sem.run_pure]
    · cases ha
  · rename_i n elem b o hu
    split at ha
    · rename_i ie hie
      split at ha
      · rename_i l h1 hbd
        split at ha
        · cases ha
        · rename_i hne
          simp only [Option.some.injEq] at ha
          subst ha
          obtain ⟨rfl, hb⟩ := hx.ptr_inv
          obtain ⟨e1, e2, e3⟩ := run_bounds (P := P) w false (Nat.le_refl n) (Nat.le_refl n) hl hh hbd
          have hsz : P.cellsOf elem = ie.size := by simp [Program.cellsOf, hie]
          refine ⟨.slice (some ⟨(f b).blk, (f b).off + o + l * ie.size, none⟩) (h1 - l) (n - l), ?_, .slice b _ _ _ _ _ _ hb rfl (by omega) (.inl rfl)⟩
          simp only [Instr.sliceAt, Sem.run_bind, run_underlying hu, Result.andThen_ok, Instr.sureAddr, Sem.run_pure, e1, run_sizeOf w hie, hsz, addr_add, if_neg (fun e => hne (Eq.symm e))]
      · cases ha
    · cases ha
  · cases ha

end Go.Am
