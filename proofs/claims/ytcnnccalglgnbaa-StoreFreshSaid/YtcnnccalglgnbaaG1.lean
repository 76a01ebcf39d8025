import Derived.WalkKit
import Derived.ChangeKeysEq
import Derived.DeepKeys5
import Derived.Maps.Keyed
import Derived.Lib.Builder
import Derived.MapKept
set_option linter.unusedVariables false
set_option linter.unusedSimpArgs false
/- Types whose values are rows of bools, numbers and strings. -/
namespace Go.Am
open Go
/-- A value that is not known any more: whatever stands there. -/
def junk : Value := .chan (some 0)
/-- the cells of a type, a type each -/
def flat (P : Program) : Nat → TypeId → Option (List TypeId)
  | 0, _ => none
  | m + 1, t =>
    match P.underlying t with
    | some .bool | some (.int _) | some .string | some (.slice _) => some [t]
    | some (.struct fs) => (fs.toList.foldlM (fun (acc : List TypeId) fld => if fld.offset = acc.length then (flat P m fld.type).bind fun l => if l.length = P.cellsOf fld.type then some (acc ++ l) else none else none) []).bind fun l => if l.length = P.cellsOf t then some l else none
    | some (.array k e) => (flat P m e).bind fun l => if l.length = P.cellsOf e ∧ P.cellsOf t = k * l.length then some ((List.replicate k l).flatten) else none
    | _ => none
/-- a bool, a number, a string of a type -/
def litCell (P : Program) (t : TypeId) (v : Value) : Bool :=
  match P.underlying t, v with
  | some .bool, .bool _ => true
  | some (.int q), .int q' n => q' == q && (Lit.int q n).wf
  | some .string, .string s => decide (s.size ≤ maxLen)
  | _, _ => false
/-- so are all of these -/
def litCells (P : Program) : List TypeId → List Value → Bool
  | [], [] => true
  | t :: ts, v :: vs => litCell P t v && litCells P ts vs
  | _, _ => false
theorem litCells_append {P : Program} : ∀ {ts ts2 : List TypeId} {vs vs2 : List Value}, ts.length = vs.length → (litCells P (ts ++ ts2) (vs ++ vs2) = true ↔ litCells P ts vs = true ∧ litCells P ts2 vs2 = true)
  | [], _, [], _, _ => by simp [litCells]
  | t :: ts, ts2, v :: vs, vs2, h => by
    simp only [List.cons_append, litCells, Bool.and_eq_true]
    rw [litCells_append (by simpa using h)]
    simp [and_assoc]
  | [], _, _ :: _, _, h => by simp at h
  | _ :: _, _, [], _, h => by simp at h
theorem litCells_length {P : Program} : ∀ {ts : List TypeId} {vs : List Value}, litCells P ts vs = true → vs.length = ts.length
  | [], [], _ => rfl
  | t :: ts, v :: vs, h => by
    simp only [litCells, Bool.and_eq_true] at h
    simp [litCells_length h.2]
  | [], _ :: _, h => by simp [litCells] at h
  | _ :: _, [], h => by simp [litCells] at h
theorem litCells_piece {P : Program} {ts : List TypeId} {vs : List Value} (h : litCells P ts vs = true) (o m : Nat) : litCells P ((ts.drop o).take m) ((vs.drop o).take m) = true := by
  have hl := litCells_length h
  have h1 : litCells P (ts.take o ++ ts.drop o) (vs.take o ++ vs.drop o) = true := by simpa using h
  rw [litCells_append (by simp [hl])] at h1
  have h2 : litCells P ((ts.drop o).take m ++ (ts.drop o).drop m) ((vs.drop o).take m ++ (vs.drop o).drop m) = true := by rw [List.take_append_drop, List.take_append_drop]; exact h1.2
  rw [litCells_append (by simp [hl])] at h2
  exact h2.1
/-- may a type be told by its cells? -/
def keyTy (P : Program) (k : TypeId) : Bool :=
  decide (k < P.types.size) && decide (P.types.size + 2 ≤ 10000) && P.keyType k && !(P.eqGuardType P.depth k)
/-- a value of such a type -/
def keyed (P : Program) (k : TypeId) (v : Value) : Bool :=
  match P.underlying k, v with
  | some (.struct _), .agg cs | some (.array _ _), .agg cs => match flat P 8 k with
    | some ts => litCells P ts cs.toList
    | none => false
  | some (.struct _), _ | some (.array _ _), _ => false
  | some _, v => litCell P k v
  | none, _ => false
theorem keyLits_flat {P : Program} : ∀ (m D : Nat) (t : TypeId) (ts : List TypeId) (cs : List Value), flat P m t = some ts → P.keyTypeAt D t = true → litCells P ts cs = true → ∃ L, P.keyLits D t cs = some L := by
  intro m
  induction m with
  | zero => intro D t ts cs h; simp [flat] at h
  | succ m ih =>
    intro D t ts cs hf hk hl
    cases D with
    | zero => simp [Program.keyTypeAt] at hk
    | succ D =>
      unfold flat at hf
      unfold Program.keyTypeAt at hk
      unfold Program.keyLits
      have one : ts = [t] → ∃ v, cs = [v] ∧ litCell P t v = true := by
        rintro rfl
        match cs, hl with
        | [v], hl => simp only [litCells, Bool.and_true] at hl; exact ⟨v, rfl, hl⟩
        | [], hl => simp [litCells] at hl
        | _ :: _ :: _, hl => simp [litCells] at hl
      cases hu : P.underlying t with
      | none => simp [hu] at hf
      | some d =>
        rw [hu] at hf hk
        cases d with
        | bool =>
          obtain ⟨v, rfl, hv⟩ := one (by simpa using hf.symm)
          simp only [litCell, hu] at hv
          cases v <;> simp at hv
          exact ⟨_, rfl⟩
        | int q =>
          obtain ⟨v, rfl, hv⟩ := one (by simpa using hf.symm)
          simp only [litCell, hu] at hv
          cases v <;> simp at hv
          exact ⟨_, by simp only [hv, and_self, if_true]; rfl⟩
        | string =>
          obtain ⟨v, rfl, hv⟩ := one (by simpa using hf.symm)
          simp only [litCell, hu] at hv
          cases v <;> simp at hv
          exact ⟨_, by simp only [hv, if_true]; rfl⟩
        | array k e =>
          simp only at hk
          rw [Option.bind_eq_some_iff] at hf
          obtain ⟨l, hle, hf⟩ := hf
          split at hf
          · rename_i hll
            cases hf
            obtain ⟨e1, e2⟩ := hll
            have hlen : cs.length = P.cellsOf t := by rw [litCells_length hl, e2]; simp
            simp only [hlen, if_true]
            have key : ∀ is : List Nat, (∀ i ∈ is, i < k) → ∃ LL, (is.mapM fun i => P.keyLits D e ((cs.drop (i * P.cellsOf e)).take (P.cellsOf e))) = some LL := by
              intro is
              induction is with
              | nil => intro _; exact ⟨[], rfl⟩
              | cons i is ih2 =>
                intro hi
                obtain ⟨LL, hLL⟩ := ih2 fun j hj => hi j (List.mem_cons_of_mem _ hj)
                have hik := hi i (List.mem_cons_self ..)
                have hpc := litCells_piece hl (i * l.length) l.length
                have hrep : ∀ (k i : Nat), i < k → (((List.replicate k l).flatten).drop (i * l.length)).take l.length = l := by
                  intro k
                  induction k with
                  | zero => intro i h; omega
                  | succ k ih3 =>
                    intro i h
                    rw [List.replicate_succ, List.flatten_cons]
                    cases i with
                    | zero => simp
                    | succ i =>
                      rw [Nat.add_mul, Nat.one_mul, Nat.add_comm, ← List.drop_drop, List.drop_left]
                      exact ih3 i (by omega)
                rw [hrep k i hik, e1] at hpc
                obtain ⟨L, hL⟩ := ih D e l _ hle hk hpc
                exact ⟨L :: LL, by rw [List.mapM_cons, hL, hLL]; rfl⟩
            obtain ⟨LL, hLL⟩ := key (List.range k) (fun i hi => List.mem_range.1 hi)
            exact ⟨_, by rw [hLL]; rfl⟩
          · cases hf
        | struct fs =>
          simp only [Bool.and_eq_true] at hk
          obtain ⟨⟨hall, _⟩, _⟩ := hk
          simp only [Option.bind_eq_some_iff] at hf
          obtain ⟨l, hl0, hf⟩ := hf
          split at hf
          · rename_i hll
            cases hf
            have hlen : cs.length = P.cellsOf t := by rw [litCells_length hl, hll]
            have hname : fs.all (fun x => x.name != "_") = true := by
              rw [Array.all_eq_true] at hall ⊢
              intro i hi
              have := hall i hi
              simp only [Bool.and_eq_true] at this
              exact this.1
            simp only [hlen, hname, and_self, if_true]
            have parts : ∀ (fl : List Field) (acc l : List TypeId), fl.foldlM (fun (acc : List TypeId) fld => if fld.offset = acc.length then (flat P m fld.type).bind fun l => if l.length = P.cellsOf fld.type then some (acc ++ l) else none else none) acc = some l →
                (∃ x, l = acc ++ x) ∧ ∀ f ∈ fl, ∃ lf, flat P m f.type = some lf ∧ lf.length = P.cellsOf f.type ∧ (l.drop f.offset).take (P.cellsOf f.type) = lf := by
              intro fl
              induction fl with
              | nil => intro acc l h1; simp at h1; subst h1; exact ⟨⟨[], by simp⟩, fun f hf => by simp at hf⟩
              | cons f fl ih2 =>
                intro acc l h1
                rw [List.foldlM_cons] at h1
                simp only [Option.bind_eq_bind, Option.bind_eq_some_iff] at h1
                obtain ⟨acc2, h3, h4⟩ := h1
                split at h3
                · rename_i ho
                  rw [Option.bind_eq_some_iff] at h3
                  obtain ⟨l2, h5, h6⟩ := h3
                  split at h6
                  · rename_i hc
                    cases h6
                    obtain ⟨⟨x, hx⟩, h7⟩ := ih2 _ _ h4
                    refine ⟨⟨l2 ++ x, by rw [hx]; simp⟩, fun g hg => ?_⟩
                    rcases List.mem_cons.1 hg with rfl | hg
                    · refine ⟨l2, h5, hc, ?_⟩
                      rw [hx, ho, List.append_assoc, List.drop_left, ← hc, List.take_left]
                    · exact h7 g hg
                  · cases h6
                · cases h3
            obtain ⟨_, hparts⟩ := parts fs.toList [] _ hl0
            have key : ∀ fl : List Field, (∀ f ∈ fl, f ∈ fs.toList) → ∃ LL, (fl.mapM fun f => P.keyLits D f.type ((cs.drop f.offset).take (P.cellsOf f.type))) = some LL := by
              intro fl
              induction fl with
              | nil => intro _; exact ⟨[], rfl⟩
              | cons f fl ih2 =>
                intro hi
                obtain ⟨LL, hLL⟩ := ih2 fun j hj => hi j (List.mem_cons_of_mem _ hj)
                have hmem := hi f (List.mem_cons_self ..)
                obtain ⟨lf, g1, g2, g3⟩ := hparts f hmem
                have hpc := litCells_piece hl f.offset (P.cellsOf f.type)
                rw [g3] at hpc
                have hkf : P.keyTypeAt D f.type = true := by
                  rw [Array.all_eq_true] at hall
                  obtain ⟨j, hj, rfl⟩ := List.getElem_of_mem hmem
                  have := hall j (by simpa using hj)
                  simp only [Bool.and_eq_true] at this
                  simpa using this.2
                obtain ⟨L, hL⟩ := ih D f.type lf _ g1 hkf hpc
                exact ⟨L :: LL, by rw [List.mapM_cons, hL, hLL]; rfl⟩
            obtain ⟨LL, hLL⟩ := key fs.toList (fun f hf => hf)
            exact ⟨_, by rw [hLL]; rfl⟩
          · cases hf
        | _ => simp at hk
theorem keyOf_keyed {P : Program} {k : TypeId} {v : Value} (hk : keyTy P k = true) (hv : keyed P k v = true) : ∃ l, keyOf P k v = some l := by
  simp only [keyTy, Bool.and_eq_true, decide_eq_true_eq] at hk
  obtain ⟨⟨⟨h1, h2⟩, h3⟩, h4⟩ := hk
  have agg : ∀ cs : Array Value, v = .agg cs → (match P.underlying k with | some (.array _ _) | some (.struct _) => true | _ => false) = true → (∃ ts, flat P 8 k = some ts ∧ litCells P ts cs.toList = true) → ∃ l, keyOf P k v = some l := by
    rintro cs rfl hwide ⟨ts, hf, hl⟩
    obtain ⟨L, hL⟩ := keyLits_flat 8 (P.types.size + 1) k ts cs.toList hf h3 hl
    have hform : (Value.agg cs).formed P k = true := by
      have hlen := litCells_length hl
      have hc : ts.length = P.cellsOf k := by
        unfold flat at hf
        cases hu : P.underlying k with
        | none => simp [hu] at hf
        | some d =>
          rw [hu] at hf hwide
          cases d <;> simp at hwide
          all_goals
            simp only [Option.bind_eq_some_iff] at hf
            obtain ⟨l, _, hf⟩ := hf
            split at hf <;> cases hf
            rename_i hx
            first | exact hx | (rw [hx.2]; simp)
      simp only [Value.formed]
      split at hwide
      · rename_i hu; rw [hu]; simp at hlen ⊢; omega
      · rename_i hu; rw [hu]; simp at hlen ⊢; omega
      · cases hwide
    unfold keyOf
    split
    · rw [if_pos (by rw [h3, hform]; rfl)]
      exact ⟨_, by rw [show (Value.agg cs).cells = cs from rfl, hL]; rfl⟩
    · rw [if_pos (by rw [h3, hform]; rfl)]
      exact ⟨_, by rw [show (Value.agg cs).cells = cs from rfl, hL]; rfl⟩
    · rename_i n1 n2
      split at hwide <;> simp_all
  have scalar : litCell P k v = true → ∃ l, keyOf P k v = some l := by
    intro hv
    unfold litCell at hv
    unfold keyOf mapKey
    cases hu : P.underlying k with
    | none => simp [hu] at hv
    | some d =>
      rw [hu] at hv
      cases d <;> cases v <;> simp at hv
      · exact ⟨_, rfl⟩
      · exact ⟨_, by simp only [hv, and_self, if_true]; rfl⟩
      · exact ⟨_, by simp only [hv, if_true]; rfl⟩
  unfold keyed at hv
  split at hv
  · rename_i fs cs hu
    split at hv
    · rename_i ts hf; exact agg cs rfl (by rw [hu]) ⟨ts, hf, hv⟩
    · cases hv
  · rename_i n e cs hu
    split at hv
    · rename_i ts hf; exact agg cs rfl (by rw [hu]) ⟨ts, hf, hv⟩
    · cases hv
  · cases hv
  · cases hv
  · exact scalar hv
  · cases hv
theorem keyed_law {P : Program} {k : TypeId} (hl : laidOutB P = true) (hk : keyTy P k = true) : Maps.Keyed P k := by
  simp only [keyTy, Bool.and_eq_true, decide_eq_true_eq] at hk
  obtain ⟨⟨⟨h1, h2⟩, h3⟩, h4⟩ := hk
  have h3' := h3
  unfold Program.keyType Program.keyTypeAt at h3'
  cases hu : P.underlying k with
  | none => simp [hu] at h3'
  | some d =>
    cases d with
    | bool => exact Maps.bool_keyed hu
    | int q => exact Maps.int_keyed hu
    | string => exact Maps.string_keyed hu
    | array n e => exact .of_law (deep_law_gate hl h2 h1 h3 (by rw [hu]))
    | struct fs => exact .of_law (deep_law_gate hl h2 h1 h3 (by rw [hu]))
    | _ => simp [hu] at h3'
end Go.Am

set_option linter.unusedVariables false
/- The abstract heap, and what it says of a world. -/
namespace Go.Am
open Go
structure Img where
  blk : Nat
  off : Nat
  n : Nat
  N : Nat
  es : Nat
/-- where blocks lie, and what is known of memory that nobody writes any more -/
structure Emb where
  img : Nat → Img
  rom : Nat → Option (Array Value)
instance : CoeFun Emb (fun _ => Nat → Img) := ⟨Emb.img⟩
def Emb.Agree (L : Nat) (f f' : Emb) : Prop := (∀ b, b < L → f' b = f b) ∧ ∀ r ds, f.rom r = some ds → f'.rom r = some ds
theorem Emb.Agree.refl (L : Nat) (f : Emb) : Emb.Agree L f f := ⟨fun _ _ => rfl, fun _ _ h => h⟩
theorem Emb.Agree.trans {L L' : Nat} {f f1 f2 : Emb} (h : Emb.Agree L f f1) (k : Emb.Agree L' f1 f2) (hl : L ≤ L') : Emb.Agree L f f2 :=
  ⟨fun b hb => (k.1 b (Nat.lt_of_lt_of_le hb hl)).trans (h.1 b hb), fun r ds e => k.2 r ds (h.2 r ds e)⟩
/-- a slice that nobody writes any more: its cells, its length -/
def fz (cs : Array Value) (n : Nat) : Value := .func (.yield 0) cs #[.int .i64 n]
/-- a pointer into such -/
def fp (cs : Array Value) (o : Nat) : Value := .func (.yield 1) cs #[.int .i64 o]
/-- the number beside a row's cells -/
def fzN (ks : Array Value) : Option Nat :=
  match ks.toList with
  | [.int .i64 k] => if 0 ≤ k then some k.toNat else none
  | _ => none
theorem fzN_lit (n : Nat) : fzN #[.int .i64 n] = some n := by simp only [fzN]; rw [if_pos (by omega)]; rfl
/-- rows whose kind is known bear it beside their cells' size, which is 1 -/
def tagN : Nat := 1099511627776
def szOf (es : Nat) : Nat := if es < tagN then es else 1
theorem szOf_lt {es : Nat} (h : es < tagN) : szOf es = es := if_pos h
theorem szOf_tag (t : Nat) : szOf (tagN + t) = 1 := if_neg (by omega)
def CapRel (I : Img) (o c c' : Nat) : Prop :=
  c' = c ∨ (szOf I.es ≠ 0 ∧ o + c * szOf I.es = I.n ∧ I.off + o + c' * szOf I.es = I.N ∧ c ≤ c')
theorem CapRel.le {I : Img} {o c c' : Nat} (h : CapRel I o c c') : c ≤ c' := by
  rcases h with rfl | ⟨_, _, _, h⟩
  · exact Nat.le_refl _
  · exact h
def Fn.plain : Fn → Bool
  | .func _ => true
  | _ => false
inductive VRel (f : Emb) (L : Nat) : Value → Value → Prop
  | junk (v : Value) : VRel f L junk v
  | bool (b : Bool) : VRel f L (.bool b) (.bool b)
  | int (k : IntKind) (n : Int) : VRel f L (.int k n) (.int k n)
  | string (s : ByteArray) : VRel f L (.string s) (.string s)
  | nilFunc : VRel f L .nilFunc .nilFunc
  | nilIface : VRel f L .nilIface .nilIface
  | nilPtr : VRel f L (.pointer none) (.pointer none)
  | ptr (b o r o' : Nat) (hb : b < L) (hr : r = (f b).blk) (ho : o' = (f b).off + o) : VRel f L (.pointer (some ⟨b, o, none⟩)) (.pointer (some ⟨r, o', none⟩))
  | nilMap : VRel f L (.map none) (.map none)
  | map (b r : Nat) (hb : b < L) (hr : r = (f b).blk) : VRel f L (.map (some b)) (.map (some r))
  | nilSlice (l c : Nat) : VRel f L (.slice none l c) (.slice none l c)
  | slice (b o l c c' r o' : Nat) (hb : b < L) (hr : r = (f b).blk) (ho : o' = (f b).off + o) (hc : CapRel (f b) o c c') :
      VRel f L (.slice (some ⟨b, o, none⟩) l c) (.slice (some ⟨r, o', none⟩) l c')
  | slice0 (a a' : Addr) (hb : a.block < L) : VRel f L (.slice (some a) 0 0) (.slice (some a') 0 0)
  | func (fn : Fn) (xs ys cs ds : Array Value) (hfn : Fn.plain fn = true) (hx : xs.size = ys.size) (hxy : ∀ i : Nat, VRel f L (xs.getD i junk) (ys.getD i junk))
      (hc : cs.size = ds.size) (hcd : ∀ i : Nat, VRel f L (cs.getD i junk) (ds.getD i junk)) : VRel f L (.func fn xs cs) (.func fn ys ds)
  | iface (t : TypeId) (v v' : Value) (hv : VRel f L v v') : VRel f L (.iface t v) (.iface t v')
  | agg (xs ys : Array Value) (hx : xs.size = ys.size) (hxy : ∀ i : Nat, VRel f L (xs.getD i junk) (ys.getD i junk)) (hone : ∀ i : Nat, (ys.getD i junk).oneCell' = true) :
      VRel f L (.agg xs) (.agg ys)
  | tuple (xs ys : Array Value) (hx : xs.size = ys.size) (hxy : ∀ i : Nat, VRel f L (xs.getD i junk) (ys.getD i junk)) : VRel f L (.tuple xs) (.tuple ys)
  | fz (cs : Array Value) (n r o c : Nat) (ds : Array Value) (hrom : f.rom r = some ds) (hle : o + cs.size ≤ ds.size) (hn : n ≤ c)
      (hxy : ∀ i : Nat, VRel f L (cs.getD i junk) (if i < cs.size then ds.getD (o + i) junk else junk)) (hone : ∀ i : Nat, i < cs.size → (ds.getD (o + i) junk).oneCell' = true) :
      VRel f L (.func (.yield 0) cs #[.int .i64 n]) (.slice (some ⟨r, o, none⟩) n c)
  | fz0 (a : Addr) (c : Nat) : VRel f L (.func (.yield 0) #[] #[.int .i64 (0 : Nat)]) (.slice (some a) 0 c)
  | bnil : VRel f L (.func (.yield 2) #[] #[]) (.slice none 0 0)
  | fp (cs : Array Value) (k r o o' : Nat) (ds : Array Value) (hrom : f.rom r = some ds) (hle : o + cs.size ≤ ds.size) (ho : o' = o + k)
      (hxy : ∀ i : Nat, VRel f L (cs.getD i junk) (if i < cs.size then ds.getD (o + i) junk else junk)) (hone : ∀ i : Nat, i < cs.size → (ds.getD (o + i) junk).oneCell' = true) :
      VRel f L (.func (.yield 1) cs #[.int .i64 k]) (.pointer (some ⟨r, o', none⟩))
/-- rows of values -/
def ARel (f : Emb) (L : Nat) (xs ys : Array Value) : Prop := xs.size = ys.size ∧ ∀ i : Nat, VRel f L (xs.getD i junk) (ys.getD i junk)
theorem VRel.mono {f f' : Emb} {L L' : Nat} {v v' : Value} (h : VRel f L v v') (hL : L ≤ L') (hf : Emb.Agree L f f') : VRel f' L' v v' := by
  induction h with
  | junk v => exact .junk v
  | bool b => exact .bool b
  | int k n => exact .int k n
  | string s => exact .string s
  | nilFunc => exact .nilFunc
  | nilIface => exact .nilIface
  | nilPtr => exact .nilPtr
  | ptr b o r o' hb hr ho => exact .ptr b o r o' (by omega) (by rw [hf.1 b hb]; exact hr) (by rw [hf.1 b hb]; exact ho)
  | nilMap => exact .nilMap
  | map b r hb hr => exact .map b r (by omega) (by rw [hf.1 b hb]; exact hr)
  | nilSlice l c => exact .nilSlice l c
  | slice b o l c c' r o' hb hr ho hc => exact .slice b o l c c' r o' (by omega) (by rw [hf.1 b hb]; exact hr) (by rw [hf.1 b hb]; exact ho) (by rw [hf.1 b hb]; exact hc)
  | slice0 a a' hb => exact .slice0 a a' (by omega)
  | func fn xs ys cs ds hfn hx hxy hc hcd ih1 ih2 => exact .func fn xs ys cs ds hfn hx ih1 hc ih2
  | iface t v v' hv ih => exact .iface t v v' ih
  | agg xs ys hx hxy hone ih => exact .agg xs ys hx ih hone
  | tuple xs ys hx hxy ih => exact .tuple xs ys hx ih
  | fz cs n r o c ds hrom hle hn hxy hone ih => exact .fz cs n r o c ds (hf.2 _ _ hrom) hle hn ih hone
  | fz0 a c => exact .fz0 a c
  | bnil => exact .bnil
  | fp cs k r o o' ds hrom hle ho hxy hone ih => exact .fp cs k r o o' ds (hf.2 _ _ hrom) hle ho ih hone
theorem ARel.mono {f f' : Emb} {L L' : Nat} {xs ys : Array Value} (h : ARel f L xs ys) (hL : L ≤ L') (hf : Emb.Agree L f f') : ARel f' L' xs ys :=
  ⟨h.1, fun i => (h.2 i).mono hL hf⟩
theorem ARel.set {f : Emb} {L : Nat} {xs ys : Array Value} (h : ARel f L xs ys) (d : Nat) {v v' : Value} (hv : VRel f L v v') :
    ARel f L (xs.setIfInBounds d v) (ys.setIfInBounds d v') := by
  refine ⟨by simpa using h.1, fun i => ?_⟩
  have h1 := h.1
  by_cases hd : d = i
  · subst hd
    by_cases hlt : d < xs.size
    · have hlt' : d < ys.size := by omega
      simp [hlt, hlt', Array.getD]
      exact hv
    · have hlt' : ¬ d < ys.size := by omega
      simp [Array.getD, hlt, hlt']
      exact .junk _
  · have := h.2 i
    simp only [Array.getD_eq_getD_getElem?, Array.getElem?_setIfInBounds_ne hd] at this ⊢
    exact this
/-- The objects of the abstract heap. -/
inductive AObj where
  | dead
  | cells (c : Array Value) (es : Nat) (rw : Bool)
  | map (k : TypeId) (es : Array MapEntry) (clock : Nat)
  | miter (m : Option Nat) (since : Nat) (seen : Array Nat) (stepped : Nat)
def AObj.rw : AObj → Bool
  | .dead => false
  | .cells _ _ r => r
  | .map _ _ _ => true
  | .miter .. => true
def AObj.alive : AObj → Bool
  | .dead => false
  | _ => true
abbrev AH := List AObj
/-- what holds of a map: its keys are of its kind, no two are the same, each entry has its own number -/
structure MapOk (P : Program) (k : TypeId) (es : List MapEntry) (clock : Nat) : Prop where
  ty : keyTy P k = true
  keys : ∀ e ∈ es, keyed P k e.key = true
  apart : (es.map (·.key)).Nodup
  old : ∀ e ∈ es, e.born < clock
  born : (es.map (·.born)).Nodup
def AObj.ok (P : Program) : AObj → Prop
  | .map k es clock => MapOk P k es.toList clock
  | _ => True
theorem ok_cells {P : Program} {c : Array Value} {es : Nat} {rw : Bool} : (AObj.cells c es rw).ok P := trivial
def EntryRel (f : Emb) (L : Nat) (e e' : MapEntry) : Prop := e'.key = e.key ∧ e'.born = e.born ∧ VRel f L e.val e'.val
/-- nothing of a row is frozen -/
def NoFr (fr : Nat × Nat) (n : Nat) : Prop := fr.1 = fr.2 ∨ n ≤ fr.1
theorem NoFr.at {fr : Nat × Nat} {n : Nat} (h : NoFr fr n) (i : Nat) (hi : i < n) : (fr.1 ≤ i && i < fr.2) = false := by
  rcases h with h | h <;> simp <;> omega
theorem NoFr.zero (n : Nat) : NoFr (0, 0) n := .inl rfl
structure RowOk (fr : Nat × Nat) (n es elem off N : Nat) : Prop where
  nofr : NoFr fr n
  tag : tagN ≤ es → es = tagN + elem ∧ off = 0 ∧ N = n
theorem RowOk.at {fr : Nat × Nat} {n es elem off N : Nat} (h : RowOk fr n es elem off N) (i : Nat) (hi : i < n) : (fr.1 ≤ i && i < fr.2) = false := h.nofr.at i hi
def ORel (f : Emb) (L : Nat) (I : Img) : AObj → Obj → Prop
  | .dead, _ => True
  | .cells c es rw, o' => ∃ c' elem fr, o' = .cells c' elem fr ∧ c.size = I.n ∧ es = I.es ∧ I.off + I.n ≤ I.N ∧ (rw = true → I.N ≤ c'.size ∧ RowOk fr c'.size es elem I.off I.N) ∧ I.off + I.n ≤ c'.size ∧
      ∀ i : Nat, i < c.size → VRel f L (c.getD i Am.junk) (c'.getD (I.off + i) Am.junk) ∧ (c'.getD (I.off + i) Am.junk).oneCell' = true
  | .map k es clock, o' => ∃ es', o' = .map es' clock ∧ es.size = es'.size ∧ ∀ (i : Nat) (e : MapEntry), es[i]? = some e → ∃ e' : MapEntry, es'[i]? = some e' ∧ EntryRel f L e e'
  | .miter m since seen stepped, o' => I.off = 0 ∧ ∃ m', o' = .mapIter m' since seen stepped ∧ (match m, m' with | none, none => True | some b, some r => b < L ∧ r = (f b).blk | _, _ => False)
theorem EntryRel.mono {f f' : Emb} {L L' : Nat} {e e' : MapEntry} (h : EntryRel f L e e') (hL : L ≤ L') (hf : Emb.Agree L f f') : EntryRel f' L' e e' :=
  ⟨h.1, h.2.1, h.2.2.mono hL hf⟩
theorem ORel.mono {f f' : Emb} {L L' : Nat} {I : Img} {o : AObj} {o' : Obj} (h : ORel f L I o o') (hL : L ≤ L') (hf : Emb.Agree L f f') : ORel f' L' I o o' := by
  cases o with
  | dead => simp [ORel]
  | cells c es rw =>
    obtain ⟨c', elem, fr, h1, h2, h3, h4, h5, h6, h7⟩ := h
    exact ⟨c', elem, fr, h1, h2, h3, h4, h5, h6, fun i hi => ⟨(h7 i hi).1.mono hL hf, (h7 i hi).2⟩⟩
  | map k es clock =>
    obtain ⟨es', h1, h2, h3⟩ := h
    exact ⟨es', h1, h2, fun i e he => let ⟨e', h4, h5⟩ := h3 i e he; ⟨e', h4, h5.mono hL hf⟩⟩
  | miter m since seen stepped =>
    obtain ⟨h0, m', h1, h2⟩ := h
    refine ⟨h0, m', h1, ?_⟩
    cases m <;> cases m' <;> simp only at h2 ⊢
    obtain ⟨h2, h3⟩ := h2
    exact ⟨by omega, by rw [hf.1 _ h2]; exact h3⟩
/-- The world holds what the abstract heap says. -/
structure Sim (P : Program) (f : Emb) (h : AH) (w : World) : Prop where
  obj : ∀ (b : Nat) (o : AObj), h[b]? = some o → o.alive = true → ∃ o', w.heap[(f b).blk]? = some o' ∧ ORel f h.length (f b) o o'
  sep : ∀ (b b' : Nat) (o o' : AObj), h[b]? = some o → h[b']? = some o' → o.alive = true → o'.alive = true → o.rw = true → b ≠ b' → (f b).blk ≠ (f b').blk
  glob : ∀ g, g < P.globals.size → (f g).blk = g ∧ (f g).off = 0
  size : P.globals.size ≤ h.length
  rom : ∀ r ds, f.rom r = some ds → (∃ elem fr, w.heap[r]? = some (.cells ds elem fr)) ∧ ∀ b o, h[b]? = some o → o.rw = true → (f b).blk ≠ r
  laid : laidOutB P = true
  ok : ∀ (b : Nat) (o : AObj), h[b]? = some o → o.ok P
/-- What a call leaves: only what the heap marks axs its own may have turned. -/
structure Keep (f : Emb) (h : AH) (w w' : World) : Prop where
  os : w'.os = w.os
  tape : w'.tape = w.tape
  output : w'.output = w.output
  size : w.heap.size ≤ w'.heap.size
  block : ∀ r, r < w.heap.size → (∀ b o, h[b]? = some o → o.rw = true → (f b).blk ≠ r) → w'.heap[r]? = w.heap[r]?
  drawn : w.drawn ≤ w'.drawn
theorem Keep.refl (f : Emb) (h : AH) (w : World) : Keep f h w w := ⟨rfl, rfl, rfl, Nat.le_refl _, fun _ _ _ => rfl, Nat.le_refl _⟩
/-- what a loop over a function leaves behind among the deferred calls: a block of its own, with nothing in it -/
def Mark (f : Emb) (h : AH) (w0 w : World) (d : Deferred) : Prop :=
  ∃ D, d = { target := .collected D, args := #[] } ∧ w0.heap.size ≤ D ∧ w.heap[D]? = some (.deferred (some [])) ∧ ∀ b o, h[b]? = some o → o.rw = true → (f b).blk ≠ D
structure Marks (f : Emb) (h : AH) (w0 w : World) (ds : List Deferred) : Prop where
  each : ∀ d ∈ ds, Mark f h w0 w d
  apart : ds.Nodup
theorem Marks.nil {f : Emb} {h : AH} {w0 w : World} : Marks f h w0 w [] := ⟨fun d hd => by simp at hd, List.nodup_nil⟩
theorem Marks.of {f f1 : Emb} {h h1 : AH} {w0 w w1 : World} {ds : List Deferred} (m : Marks f h w0 w ds) (hw : ∀ D : Nat, w.heap[D]? = some (.deferred (some [])) → (∀ b o, h[b]? = some o → o.rw = true → (f b).blk ≠ D) → w1.heap[D]? = some (.deferred (some [])))
    (ho : ∀ b o, h1[b]? = some o → o.rw = true → w.heap.size ≤ (f1 b).blk ∨ ∃ b0 o0, h[b0]? = some o0 ∧ o0.rw = true ∧ (f b0).blk = (f1 b).blk) : Marks f1 h1 w0 w1 ds :=
  ⟨fun d hd => by
    obtain ⟨D, h1, h2, h3, h4⟩ := m.each d hd
    refine ⟨D, h1, h2, hw D h3 h4, fun b o hb hr e => ?_⟩
    have hlt : D < w.heap.size := (Array.getElem?_eq_some_iff.1 h3).1
    rcases ho b o hb hr with h5 | ⟨b0, o0, g1, g2, g3⟩
    · omega
    · exact h4 b0 o0 g1 g2 (g3.trans e), m.apart⟩
/-- nothing turns but what is said of the heap -/
theorem Marks.ren {f f1 : Emb} {h h1 : AH} {w0 w : World} {ds : List Deferred} (m : Marks f h w0 w ds) (ho : ∀ b o, h1[b]? = some o → o.rw = true → ∃ b0 o0, h[b0]? = some o0 ∧ o0.rw = true ∧ (f b0).blk = (f1 b).blk) : Marks f1 h1 w0 w ds :=
  m.of (fun _ h _ => h) fun b o hb hr => .inr (ho b o hb hr)
/-- The state of an activation: the frame, the heap, what it may write. -/
structure Good (P : Program) (f0 : Emb) (h0 : AH) (w0 : World) (f : Emb) (a : Array Value) (h : AH) (a' : Act) (w : World) : Prop where
  sim : Sim P f h w
  tm : ARel f h.length a a'.tmps
  df : Marks f h w0 w a'.defers
  keep : Keep f0 h0 w0 w
  own : ∀ b o, h[b]? = some o → o.rw = true → w0.heap.size ≤ (f b).blk ∨ ∃ b0 o0, h0[b0]? = some o0 ∧ o0.rw = true ∧ (f0 b0).blk = (f b).blk
  agree : Emb.Agree h0.length f0 f
  len : h0.length ≤ h.length
/-- One step of an activation. -/
structure Step (P : Program) (f : Emb) (h : AH) (w : World) (f1 : Emb) (h1 : AH) (w1 : World) : Prop where
  sim : Sim P f1 h1 w1
  agree : Emb.Agree h.length f f1
  len : h.length ≤ h1.length
  keep : Keep f h w w1
  own : ∀ b o, h1[b]? = some o → o.rw = true → w.heap.size ≤ (f1 b).blk ∨ ∃ b0 o0, h[b0]? = some o0 ∧ o0.rw = true ∧ (f b0).blk = (f1 b).blk
theorem Step.refl {P : Program} {f : Emb} {h : AH} {w : World} (hs : Sim P f h w) : Step P f h w f h w :=
  ⟨hs, .refl _ _, Nat.le_refl _, Keep.refl _ _ _, fun b o hb ho => .inr ⟨b, o, hb, ho, rfl⟩⟩
theorem Good.step {P : Program} {f0 : Emb} {h0 : AH} {w0 : World} {f : Emb} {a : Array Value} {h : AH} {a' : Act} {w : World} {f1 : Emb} {h1 : AH} {w1 : World}
    (g : Good P f0 h0 w0 f a h a' w) (s : Step P f h w f1 h1 w1) {b : Array Value} {b' : Act} (hb : ARel f1 h1.length b b'.tmps) (hd : b'.defers = a'.defers) :
    Good P f0 h0 w0 f1 b h1 b' w1 := by
  refine ⟨s.sim, hb, hd ▸ g.df.of (fun D hD hno => (s.keep.block D (Array.getElem?_eq_some_iff.1 hD).1 hno).trans hD) s.own, ?_, ?_, ?_, Nat.le_trans g.len s.len⟩
  · refine ⟨s.keep.os.trans g.keep.os, s.keep.tape.trans g.keep.tape, s.keep.output.trans g.keep.output, Nat.le_trans g.keep.size s.keep.size, fun r hr hno => ?_, Nat.le_trans g.keep.drawn s.keep.drawn⟩
    have h1 := g.keep.block r hr hno
    have h2 := s.keep.block r (Nat.lt_of_lt_of_le hr g.keep.size) (fun b o hb ho e => by
      rcases g.own b o hb ho with hge | ⟨b0, o0, hb0, ho0, he⟩
      · omega
      · exact hno b0 o0 hb0 ho0 (he.trans e))
    exact h2.trans h1
  · intro b o hb ho
    rcases s.own b o hb ho with hge | ⟨b0, o0, hb0, ho0, he⟩
    · exact .inl (Nat.le_trans g.keep.size hge)
    · rcases g.own b0 o0 hb0 ho0 with h1 | ⟨b1, o1, h2, h3, h4⟩
      · exact .inl (by omega)
      · exact .inr ⟨b1, o1, h2, h3, h4.trans he⟩
  · exact g.agree.trans s.agree g.len
/-- where a new block lies -/
def upd (f : Emb) (L : Nat) (I : Img) : Emb := ⟨fun b => if b = L then I else f b, f.rom⟩
theorem upd_eq (f : Emb) (L : Nat) (I : Img) : upd f L I L = I := by simp [upd]
theorem upd_lt (f : Emb) (L : Nat) (I : Img) (b : Nat) (h : b < L) : upd f L I b = f b := by simp only [upd]; rw [if_neg (by omega)]
theorem upd_agree (f : Emb) (L : Nat) (I : Img) : Emb.Agree L f (upd f L I) := ⟨fun b hb => upd_lt f L I b hb, fun _ _ h => h⟩
/-- A new block. -/
theorem Step.alloc {P : Program} {f : Emb} {h : AH} {w : World} (hs : Sim P f h w) (o : AObj) (o' : Obj) (I : Img) (hI : I.blk = w.heap.size)
    (ho : ORel f h.length I o o') (hok : o.ok P := by exact trivial) : Step P f h w (upd f h.length I) (h ++ [o]) (w.alloc o') := by
  have hlt : ∀ (b : Nat) (x : AObj), h[b]? = some x → b < h.length := fun b x hb => (List.getElem?_eq_some_iff.1 hb).1
  have hag : ∀ b, b < h.length → upd f h.length I b = f b := fun b hb => upd_lt _ _ _ _ hb
  have hagr := upd_agree f h.length I
  have hcase : ∀ (b : Nat) (x : AObj), (h ++ [o])[b]? = some x → (b < h.length ∧ h[b]? = some x) ∨ (b = h.length ∧ x = o) := by
    intro b x hb
    by_cases hl : b < h.length
    · exact .inl ⟨hl, by rw [List.getElem?_append_left hl] at hb; exact hb⟩
    · rw [List.getElem?_append_right (by omega)] at hb
      by_cases he : b = h.length
      · subst he; simp at hb; exact .inr ⟨rfl, hb.symm⟩
      · exfalso
        have : b - h.length ≠ 0 := by omega
        obtain ⟨k, hk⟩ := Nat.exists_eq_succ_of_ne_zero this
        rw [hk] at hb
        simp at hb
  refine ⟨⟨?_, ?_, ?_, ?_, ?_, hs.laid, fun b x hb => (hcase b x hb).elim (fun ⟨_, h1⟩ => hs.ok b x h1) (fun ⟨_, e⟩ => e ▸ hok)⟩, hagr, by simp, ?_, ?_⟩
  · intro b x hb ha
    rcases hcase b x hb with ⟨hl, hb'⟩ | ⟨rfl, rfl⟩
    · obtain ⟨y, hy, hr⟩ := hs.obj b x hb' ha
      have hbl : (f b).blk < w.heap.size := (Array.getElem?_eq_some_iff.1 hy).1
      refine ⟨y, ?_, ?_⟩
      · rw [hag b hl]
        show (w.heap.push o')[(f b).blk]? = _
        rw [Array.getElem?_push, if_neg (by omega)]
        exact hy
      · rw [hag b hl]
        exact hr.mono (by simp) hagr
    · refine ⟨o', ?_, ?_⟩
      · simp only [upd_eq, hI]
        show (w.heap.push o')[w.heap.size]? = _
        simp
      · simp only [upd_eq]
        exact ho.mono (by simp) hagr
  · intro b b' x x' hb hb' ha ha' hrw hne
    rcases hcase b x hb with ⟨hl, h1⟩ | ⟨rfl, rfl⟩ <;> rcases hcase b' x' hb' with ⟨hl', h1'⟩ | ⟨rfl, rfl⟩
    · rw [hag b hl, hag b' hl']; exact hs.sep b b' x x' h1 h1' ha ha' hrw hne
    · rw [hag b hl]
      obtain ⟨y, hy, _⟩ := hs.obj b x h1 ha
      have hbl : (f b).blk < w.heap.size := (Array.getElem?_eq_some_iff.1 hy).1
      simp only [upd_eq, hI]; omega
    · rw [hag b' hl']
      obtain ⟨y, hy, _⟩ := hs.obj b' x' h1' ha'
      have hbl : (f b').blk < w.heap.size := (Array.getElem?_eq_some_iff.1 hy).1
      simp only [upd_eq, hI]; omega
    · exact absurd rfl hne
  · intro g hg
    rw [hag g (Nat.lt_of_lt_of_le hg hs.size)]
    exact hs.glob g hg
  · have := hs.size
    simp only [List.length_append]
    omega
  · intro r ds hr
    obtain ⟨⟨elem, fr, h1⟩, h2⟩ := hs.rom r ds hr
    have hlt' : r < w.heap.size := (Array.getElem?_eq_some_iff.1 h1).1
    refine ⟨⟨elem, fr, ?_⟩, fun b x hb hrw => ?_⟩
    · show (w.heap.push o')[r]? = _
      rw [Array.getElem?_push, if_neg (by omega)]; exact h1
    · rcases hcase b x hb with ⟨hl, h3⟩ | ⟨rfl, rfl⟩
      · rw [hag b hl]; exact h2 b x h3 hrw
      · simp only [upd_eq, hI]; omega
  · refine ⟨rfl, rfl, rfl, by simp, fun r hr _ => ?_, Nat.le_refl _⟩
    show (w.heap.push o')[r]? = _
    rw [Array.getElem?_push, if_neg (by omega)]
  · intro b x hb hrw
    rcases hcase b x hb with ⟨hl, h1⟩ | ⟨rfl, rfl⟩
    · exact .inr ⟨b, x, h1, hrw, by rw [hag b hl]⟩
    · exact .inl (by simp [upd_eq, hI])
/-- A block of one's own is written. -/
theorem Step.write {P : Program} {f : Emb} {h : AH} {w : World} (hs : Sim P f h w) {b : Nat} {o o1 : AObj} (hb : h[b]? = some o) (ho : o.rw = true)
    (_ho1 : o1.rw = o1.rw) (hok : o1.ok P) {w1 : World} {o1' : Obj}
    (hw : w1.heap[(f b).blk]? = some o1') (hr : ORel f h.length (f b) o1 o1') (hother : ∀ r, r ≠ (f b).blk → w1.heap[r]? = w.heap[r]?)
    (hos : w1.os = w.os) (htape : w1.tape = w.tape) (hout : w1.output = w.output) (hsize : w1.heap.size = w.heap.size) (hdr : w1.drawn = w.drawn := by rfl) :
    Step P f h w f (h.set b o1) w1 := by
  have hal : ∀ x : AObj, x.rw = true → x.alive = true := fun x hx => by cases x <;> simp_all [AObj.rw, AObj.alive]
  have hlt : b < h.length := (List.getElem?_eq_some_iff.1 hb).1
  have hcase : ∀ (b' : Nat) (x : AObj), (h.set b o1)[b']? = some x → (b' = b ∧ x = o1) ∨ (b' ≠ b ∧ h[b']? = some x) := by
    intro b' x hx
    by_cases he : b = b'
    · subst he
      rw [List.getElem?_set_self hlt] at hx
      exact .inl ⟨rfl, (Option.some.inj hx).symm⟩
    · rw [List.getElem?_set_ne he] at hx
      exact .inr ⟨fun e => he e.symm, hx⟩
  refine ⟨⟨?_, ?_, hs.glob, by simpa using hs.size, ?_, hs.laid, fun b x hb => (hcase b x hb).elim (fun ⟨_, e⟩ => e ▸ hok) (fun ⟨_, h1⟩ => hs.ok b x h1)⟩, .refl _ _, by simp, ⟨hos, htape, hout, by omega, fun r hr' hno => hother r (fun e => hno b o hb ho e.symm), Nat.le_of_eq hdr.symm⟩, ?_⟩
  · intro b' x hx ha
    rcases hcase b' x hx with ⟨rfl, rfl⟩ | ⟨hne, hx'⟩
    · exact ⟨o1', hw, by simpa using hr⟩
    · obtain ⟨y, hy, hyr⟩ := hs.obj b' x hx' ha
      have : (f b).blk ≠ (f b').blk := hs.sep b b' o x hb hx' (hal o ho) ha ho (fun e => hne e.symm)
      exact ⟨y, by rw [hother _ (fun e => this e.symm)]; exact hy, by simpa using hyr⟩
  · intro b1 b2 x1 x2 h1 h2 ha1 ha2 hrw hne
    rcases hcase b1 x1 h1 with ⟨rfl, rfl⟩ | ⟨hn1, h1'⟩ <;> rcases hcase b2 x2 h2 with ⟨rfl, rfl⟩ | ⟨hn2, h2'⟩
    · exact absurd rfl hne
    · exact hs.sep b1 b2 o x2 hb h2' (hal o ho) ha2 ho hne
    · exact fun e => hs.sep b2 b1 o x1 hb h1' (hal o ho) ha1 ho (fun e => hne e.symm) e.symm
    · exact hs.sep b1 b2 x1 x2 h1' h2' ha1 ha2 hrw hne
  · intro r ds hr
    obtain ⟨⟨elem, fr, k1⟩, k2⟩ := hs.rom r ds hr
    refine ⟨⟨elem, fr, by rw [hother r (k2 b o hb ho).symm]; exact k1⟩, fun b' x hx hrw => ?_⟩
    rcases hcase b' x hx with ⟨rfl, rfl⟩ | ⟨hne, hx'⟩
    · exact k2 b' o hb ho
    · exact k2 b' x hx' hrw
  · intro b1 x1 h1 hrw
    rcases hcase b1 x1 h1 with ⟨rfl, rfl⟩ | ⟨hn1, h1'⟩
    · exact .inr ⟨b1, o, hb, ho, rfl⟩
    · exact .inr ⟨b1, x1, h1', hrw, rfl⟩
/-- Draws turn nothing. -/
theorem Sim.congr {P : Program} {f : Emb} {h : AH} {w w1 : World} (hs : Sim P f h w) (e : w1.heap = w.heap) : Sim P f h w1 :=
  ⟨fun b o hb ha => by rw [e]; exact hs.obj b o hb ha, hs.sep, hs.glob, hs.size, fun r ds hr => by rw [e]; exact hs.rom r ds hr, hs.laid, hs.ok⟩
theorem Step.trans {P : Program} {f f1 f2 : Emb} {h h1 h2 : AH} {w w1 w2 : World} (s : Step P f h w f1 h1 w1) (t : Step P f1 h1 w1 f2 h2 w2) : Step P f h w f2 h2 w2 := by
  refine ⟨t.sim, s.agree.trans t.agree s.len, Nat.le_trans s.len t.len, ?_, ?_⟩
  · refine ⟨t.keep.os.trans s.keep.os, t.keep.tape.trans s.keep.tape, t.keep.output.trans s.keep.output, Nat.le_trans s.keep.size t.keep.size, fun r hr hno => ?_, Nat.le_trans s.keep.drawn t.keep.drawn⟩
    have h1 := s.keep.block r hr hno
    have h2 := t.keep.block r (Nat.lt_of_lt_of_le hr s.keep.size) (fun b o hb ho e => by
      rcases s.own b o hb ho with hge | ⟨b0, o0, hb0, ho0, he⟩
      · omega
      · exact hno b0 o0 hb0 ho0 (he.trans e))
    exact h2.trans h1
  · intro b o hb ho
    rcases t.own b o hb ho with hge | ⟨b0, o0, hb0, ho0, he⟩
    · exact .inl (Nat.le_trans s.keep.size hge)
    · rcases s.own b0 o0 hb0 ho0 with h1 | ⟨b1, o1, h2, h3, h4⟩
      · exact .inl (by omega)
      · exact .inr ⟨b1, o1, h2, h3, h4.trans he⟩
theorem ARel.step {P : Program} {f f1 : Emb} {h h1 : AH} {w w1 : World} (s : Step P f h w f1 h1 w1) {xs ys : Array Value} (ha : ARel f h.length xs ys) : ARel f1 h1.length xs ys :=
  ha.mono s.len s.agree
/-- A contract over abstract heaps. -/
structure ACalls (P : Program) (F : FuncId) (args : Array Value) (h : AH) (R : Value → AH → Prop) : Prop where
  inh : ∃ v h', R v h'
  run : ∀ (f : Emb) (w : World) (args' : Array Value), Sim P f h w → ARel f h.length args args' →
    Calls P F args' w fun e w' => ∃ f' v v' h', e = .returned v' ∧ R v h' ∧ Step P f h w f' h' w' ∧ VRel f' h'.length v v'
theorem ACalls.mono {P : Program} {F : FuncId} {args : Array Value} {h : AH} {R R' : Value → AH → Prop} (hc : ACalls P F args h R) (hr : ∀ v h', R v h' → R' v h') : ACalls P F args h R' :=
  ⟨let ⟨v, h', r⟩ := hc.inh; ⟨v, h', hr v h' r⟩, fun f w args' hs ha => (hc.run f w args' hs ha).mono fun e w' ⟨f', v, v', h', h1, h2, h3, h4⟩ => ⟨f', v, v', h', h1, hr _ _ h2, h3, h4⟩⟩
end Go.Am

set_option linter.unusedVariables false
set_option linter.unusedSimpArgs false
/- What single operations do, on the abstract heap and in a world. -/
namespace Go.Am
open Go
def plain1 : Value → Bool
  | .bool _ | .int _ _ | .string _ | .nilFunc | .nilIface | .pointer none | .map none | .slice none _ _ => true
  | _ => false
def plainB : Value → Bool
  | .agg cs => cs.all plain1
  | .iface _ v => plain1 v
  | .func (.func _) xs cs => xs.size == 0 && cs.size == 0
  | v => plain1 v
def aconst (v : Value) : Value := if plainB v then v else junk
def aeval (P : Program) (a : Array Value) : Operand → Value
  | .tmp t => a.getD t junk
  | .const v => aconst v
  | .global g => if g < P.globals.size then .pointer (some ⟨g, 0, none⟩) else junk
  | .func F => .func (.func F) #[] #[]
theorem plain1_refl {f : Emb} {L : Nat} {v : Value} (h : plain1 v = true) : VRel f L v v := by
  cases v with
  | bool b => exact .bool b
  | int k n => exact .int k n
  | string s => exact .string s
  | nilFunc => exact .nilFunc
  | nilIface => exact .nilIface
  | pointer a => cases a <;> simp [plain1] at h; exact .nilPtr
  | map a => cases a <;> simp [plain1] at h; exact .nilMap
  | slice a l c => cases a <;> simp [plain1] at h; exact .nilSlice l c
  | _ => simp [plain1] at h
theorem plain1_one {v : Value} (h : plain1 v = true) : v.oneCell' = true := by
  cases v <;> simp_all [plain1, Value.oneCell']
theorem plain1_inv {f : Emb} {L : Nat} {v v' : Value} (h : plain1 v = true) (r : VRel f L v v') : v' = v := by
  cases r <;> first | rfl | simp [plain1, junk] at h
theorem getD_all {cs : Array Value} (h : cs.all plain1 = true) (i : Nat) (hi : i < cs.size) : plain1 (cs.getD i junk) = true := by
  rw [Array.all_eq_true] at h
  simpa [Array.getD, hi] using h i hi
theorem getD_ge {cs : Array Value} (i : Nat) (hi : ¬ i < cs.size) : cs.getD i junk = junk := by simp [Array.getD, hi]
theorem plain_agg_rel {f : Emb} {L : Nat} {cs : Array Value} (h : cs.all plain1 = true) : VRel f L (.agg cs) (.agg cs) := by
  refine .agg cs cs rfl (fun i => ?_) (fun i => ?_)
  · by_cases hi : i < cs.size
    · exact plain1_refl (getD_all h i hi)
    · rw [getD_ge i hi]; exact .junk _
  · by_cases hi : i < cs.size
    · exact plain1_one (getD_all h i hi)
    · rw [getD_ge i hi]; rfl
theorem arr_eq_of_rel {f : Emb} {L : Nat} {xs ys : Array Value} (h : xs.all plain1 = true) (hs : xs.size = ys.size) (hr : ∀ i : Nat, VRel f L (xs.getD i junk) (ys.getD i junk)) : ys = xs := by
  apply Array.ext (by omega)
  intro i h1 h2
  have := plain1_inv (getD_all h i h2) (hr i)
  simpa [Array.getD, h1, h2] using this
theorem plain_refl {f : Emb} {L : Nat} {v : Value} (h : plainB v = true) : VRel f L v v := by
  cases v with
  | agg cs => exact plain_agg_rel h
  | iface t v => exact .iface t v v (plain1_refl h)
  | func fn xs cs =>
    cases fn with
    | func F =>
      simp only [plainB, Bool.and_eq_true, beq_iff_eq] at h
      exact .func _ xs xs cs cs rfl rfl (fun i => by rw [getD_ge i (by omega)]; exact .junk _) rfl (fun i => by rw [getD_ge i (by omega)]; exact .junk _)
    | _ => simp [plainB, plain1] at h
  | _ => exact plain1_refl (by simpa [plainB] using h)
theorem plain_inv {f : Emb} {L : Nat} {v v' : Value} (h : plainB v = true) (r : VRel f L v v') : v' = v := by
  cases r with
  | agg xs ys hx hxy hone => rw [arr_eq_of_rel h hx hxy]
  | iface t v v' hv => rw [plain1_inv h hv]
  | func fn xs ys cs ds hfn hx hxy hc hcd =>
    cases fn with
    | func F =>
      simp only [plainB, Bool.and_eq_true, beq_iff_eq] at h
      have e1 : ys = xs := by apply Array.ext (by omega); intro i h1 h2; omega
      have e2 : ds = cs := by apply Array.ext (by omega); intro i h1 h2; omega
      rw [e1, e2]
    | _ => simp [plainB, plain1] at h
  | junk => simp [plainB, plain1, junk] at h
  | tuple => simp [plainB, plain1] at h
  | ptr => simp [plainB, plain1] at h
  | map => simp [plainB, plain1] at h
  | slice => simp [plainB, plain1] at h
  | slice0 => simp [plainB, plain1] at h
  | fz => simp [plainB, plain1] at h
  | fz0 => simp [plainB, plain1] at h
  | bnil => simp [plainB, plain1] at h
  | fp => simp [plainB, plain1] at h
  | _ => rfl
theorem aconst_rel {f : Emb} {L : Nat} (v : Value) : VRel f L (aconst v) v := by
  unfold aconst
  split
  · rename_i h; exact plain_refl h
  · exact .junk _
theorem aeval_rel {P : Program} {f : Emb} {h : AH} {w : World} {a : Array Value} {a' : Act} (hs : Sim P f h w) (ha : ARel f h.length a a'.tmps) (x : Operand) :
    VRel f h.length (aeval P a x) (a'.eval x) := by
  cases x with
  | tmp t =>
    have := ha.2 t
    simp only [aeval, Act.eval]
    by_cases ht : t < a.size
    · have ht' : t < a'.tmps.size := ha.1 ▸ ht
      simpa [Array.getD, ht, ht'] using this
    · rw [getD_ge t ht]; exact .junk _
  | const v => exact aconst_rel v
  | global g =>
    simp only [aeval, Act.eval]
    split
    · rename_i hg
      obtain ⟨h1, h2⟩ := hs.glob g hg
      exact .ptr g 0 g 0 (Nat.lt_of_lt_of_le hg hs.size) h1.symm (by omega)
    · exact .junk _
  | func F => exact .func _ #[] #[] #[] #[] rfl rfl (fun i => by simp; exact .junk _) rfl (fun i => by simp; exact .junk _)
/-- Programs of the model that ask nothing of the world. -/
def pureRun (P : Program) {α : Type} : Sem α → Option α
  | .pure a => some a
  | .program k => pureRun P (k P)
  | _ => none
theorem pureRun_run {P : Program} {α : Type} {s : Sem α} {a : α} (h : pureRun P s = some a) (w : World) : s.run P w = .ok a w := by
  induction s with
  | pure b => simp [pureRun] at h; subst h; rfl
  | program k ih => exact ih P h
  | _ => simp [pureRun] at h
theorem pureRun_bind {P : Program} {α β : Type} (s : Sem α) (k : α → Sem β) {a : α} (h : pureRun P s = some a) : pureRun P (s >>= k) = pureRun P (k a) := by
  induction s with
  | pure b => simp [pureRun] at h; subst h; rfl
  | program g ih => exact ih P h
  | _ => simp [pureRun] at h
/-! ### reading -/
theorem cell_of_block {w : World} {r : Nat} {c : Array Value} {t : TypeId} {fr : Nat × Nat} (h : w.heap[r]? = some (.cells c t fr)) (i : Nat) : w.cell? ⟨r, i, none⟩ = c[i]? := by
  simp [World.cell?, h]
/-- a row of cells lies there -/
def Held (f : Emb) (L : Nat) (w : World) (c : Array Value) (r base : Nat) : Prop := ∃ ds elem fr, w.heap[r]? = some (.cells ds elem fr) ∧ base + c.size ≤ ds.size ∧
  ∀ i : Nat, i < c.size → VRel f L (c.getD i junk) (ds.getD (base + i) junk) ∧ (ds.getD (base + i) junk).oneCell' = true
theorem Sim.held {P : Program} {f : Emb} {h : AH} {w : World} (hs : Sim P f h w) {b es : Nat} {c : Array Value} {rw : Bool} (hb : h[b]? = some (.cells c es rw)) : Held f h.length w c (f b).blk (f b).off := by
  obtain ⟨o', ho', c', elem, fr, rfl, h2, h3, h4, h5, h6, h7⟩ := hs.obj b _ hb rfl
  exact ⟨c', elem, fr, ho', by omega, h7⟩
theorem Sim.heldRom {P : Program} {f : Emb} {h : AH} {w : World} (hs : Sim P f h w) {c ds : Array Value} {r o : Nat} (hrom : f.rom r = some ds) (hle : o + c.size ≤ ds.size)
    (hxy : ∀ i : Nat, VRel f h.length (c.getD i junk) (if i < c.size then ds.getD (o + i) junk else junk)) (hone : ∀ i : Nat, i < c.size → (ds.getD (o + i) junk).oneCell' = true) : Held f h.length w c r o := by
  obtain ⟨⟨elem, fr, h1⟩, _⟩ := hs.rom r ds hrom
  exact ⟨ds, elem, fr, h1, hle, fun i hi => ⟨by have := hxy i; rwa [if_pos hi] at this, hone i hi⟩⟩
theorem Held.cell {f : Emb} {L : Nat} {w : World} {c : Array Value} {r base : Nat} (hh : Held f L w c r base) (i : Nat) (hi : i < c.size) :
    ∃ v', w.cell? ⟨r, base + i, none⟩ = some v' ∧ VRel f L (c.getD i junk) v' ∧ v'.oneCell' = true := by
  obtain ⟨c', elem, fr, ho', h6, h7⟩ := hh
  have hlt : base + i < c'.size := by omega
  obtain ⟨h8, h9⟩ := h7 i hi
  refine ⟨c'.getD (base + i) junk, ?_, h8, h9⟩
  rw [cell_of_block ho']
  simp [Array.getD, hlt]
theorem Sim.cell {P : Program} {f : Emb} {h : AH} {w : World} (hs : Sim P f h w) {b es : Nat} {c : Array Value} {rw : Bool} (hb : h[b]? = some (.cells c es rw)) (i : Nat) (hi : i < c.size) :
    ∃ v', w.cell? ⟨(f b).blk, (f b).off + i, none⟩ = some v' ∧ VRel f h.length (c.getD i junk) v' ∧ v'.oneCell' = true := (hs.held hb).cell i hi
theorem addr_add (b o j : Nat) : (⟨b, o, none⟩ : Addr).add j = ⟨b, o + j, none⟩ := by
  unfold Addr.add
  split
  · subst_vars; rfl
  · rfl
/-- the cells from an address on -/
theorem Held.loadCells {P : Program} {f : Emb} {L : Nat} {w : World} {c : Array Value} {r base : Nat} (hh : Held f L w c r base) (o n : Nat) (hn : o + n ≤ c.size) :
    ∃ ds : Array Value, (loadCells ⟨r, base + o, none⟩ n).run P w = .ok ds w ∧ ds.size = n ∧
      (∀ i : Nat, VRel f L ((c.extract o (o + n)).getD i junk) (ds.getD i junk)) ∧ ∀ i : Nat, (ds.getD i junk).oneCell' = true := by
  let g : Nat → Value := fun j => (w.cell? ⟨r, base + (o + j), none⟩).getD junk
  have hg : ∀ j, j < n → w.cell? ⟨r, base + (o + j), none⟩ = some (g j) ∧ VRel f L (c.getD (o + j) junk) (g j) ∧ (g j).oneCell' = true := by
    intro j hj
    obtain ⟨v', h1, h2, h3⟩ := hh.cell (o + j) (by omega)
    have : g j = v' := by simp [g, h1]
    rw [this]
    exact ⟨h1, h2, h3⟩
  refine ⟨((List.range n).map g).toArray, ?_, by simp, ?_, ?_⟩
  · refine run_loadCells w _ n g fun j hj => ?_
    rw [addr_add, Nat.add_assoc]
    exact (hg j hj).1
  · intro i
    by_cases hi : i < n
    · have e1 : (((List.range n).map g).toArray).getD i junk = g i := by simp [Array.getD, hi]
      have hsz : (c.extract o (o + n)).size = n := by simp; omega
      have e2 : (c.extract o (o + n)).getD i junk = c.getD (o + i) junk := by
        have : o + i < c.size := by omega
        have h3 : i < min (o + n) c.size - o := by omega
        simp [Array.getD, this, h3]
      rw [e1, e2]
      exact (hg i hi).2.1
    · have hsz : ¬ i < (c.extract o (o + n)).size := by simp; omega
      rw [getD_ge i hsz]
      exact .junk _
  · intro i
    by_cases hi : i < n
    · have e1 : (((List.range n).map g).toArray).getD i junk = g i := by simp [Array.getD, hi]
      rw [e1]; exact (hg i hi).2.2
    · rw [getD_ge i (by simpa using hi)]; rfl
theorem Sim.loadCells {P : Program} {f : Emb} {h : AH} {w : World} (hs : Sim P f h w) {b es : Nat} {c : Array Value} {rw : Bool} (hb : h[b]? = some (.cells c es rw)) (o n : Nat) (hn : o + n ≤ c.size) :
    ∃ ds : Array Value, (Go.loadCells ⟨(f b).blk, (f b).off + o, none⟩ n).run P w = .ok ds w ∧ ds.size = n ∧
      (∀ i : Nat, VRel f h.length ((c.extract o (o + n)).getD i junk) (ds.getD i junk)) ∧ ∀ i : Nat, (ds.getD i junk).oneCell' = true := (hs.held hb).loadCells o n hn
def isAggD : TypeDesc → Bool
  | .struct _ | .array _ _ => true
  | _ => false
theorem run_isAgg {P : Program} {t : TypeId} {d : TypeDesc} (h : P.underlying t = some d) (w : World) : (isAgg t).run P w = .ok (isAggD d) w := by
  simp only [isAgg, Sem.run_bind, run_underlying h, Result.andThen_ok]
  cases d <;> rfl
/-- what stands in a row -/
def aloadRow (P : Program) (t : TypeId) (c : Array Value) (o : Nat) : Option Value :=
  match P.underlying t, P.info? t with
  | some d, some i => if isAggD d then (if o + i.size ≤ c.size then some (.agg (c.extract o (o + i.size))) else none) else c[o]?
  | _, _ => none
def aload (P : Program) (h : AH) (t : TypeId) : Value → Option Value
  | .pointer (some ⟨b, o, none⟩) =>
    match h[b]? with
    | some (.cells c _ _) => aloadRow P t c o
    | _ => none
  | .func (.yield 1) cs ks => match fzN ks with
    | some k => aloadRow P t cs k
    | none => none
  | _ => none
theorem Held.loadVar {P : Program} {f : Emb} {L : Nat} {w : World} {c : Array Value} {rr base : Nat} (hh : Held f L w c rr base) {t : TypeId} {o : Nat} {r : Value}
    (ha : aloadRow P t c o = some r) : ∃ r', (loadVar t ⟨rr, base + o, none⟩).run P w = .ok r' w ∧ VRel f L r r' := by
  unfold aloadRow at ha
  split at ha
  · rename_i d i hu hi
    split at ha
    · rename_i hagg
      split at ha
      · rename_i hle
        obtain ⟨ds, h1, h2, h3, h4⟩ := hh.loadCells (P := P) o i.size hle
        refine ⟨.agg ds, ?_, ?_⟩
        · simp only [Go.loadVar, Sem.run_bind, run_isAgg hu, Result.andThen_ok, hagg, if_true, run_sizeOf w hi, Program.cellsOf, hi, Option.map_some, Option.getD_some, h1, Sem.run_pure]
        · simp only [Option.some.injEq] at ha
          subst ha
          exact .agg _ _ (by simp; omega) h3 h4
      · cases ha
    · rename_i hagg
      have hlt : o < c.size := (Array.getElem?_eq_some_iff.1 ha).1
      obtain ⟨v', h1, h2, h3⟩ := hh.cell o hlt
      refine ⟨v', ?_, ?_⟩
      · simp only [Bool.not_eq_true] at hagg
        simp only [Go.loadVar, Sem.run_bind, run_isAgg hu, Result.andThen_ok, hagg, Bool.false_eq_true, if_false, run_load, h1]
      · have : c.getD o junk = r := by
          have := (Array.getElem?_eq_some_iff.1 ha).2
          simp [Array.getD, hlt, this]
        rw [← this]; exact h2
  · cases ha
theorem sound_loadVar {P : Program} {f : Emb} {h : AH} {w : World} (hs : Sim P f h w) {t : TypeId} {b o : Nat} {r : Value}
    (ha : aload P h t (.pointer (some ⟨b, o, none⟩)) = some r) : ∃ r', (loadVar t ⟨(f b).blk, (f b).off + o, none⟩).run P w = .ok r' w ∧ VRel f h.length r r' := by
  unfold aload at ha
  simp only at ha
  split at ha
  · rename_i c es rw hb
    exact (hs.held hb).loadVar ha
  · cases ha
theorem sound_load {P : Program} {f : Emb} {h : AH} {w : World} (hs : Sim P f h w) {t : TypeId} {v v' r : Value} (hv : VRel f h.length v v')
    (ha : aload P h t v = some r) : ∃ r', (Instr.loadAt t v').run P w = .ok r' w ∧ VRel f h.length r r' := by
  cases hv with
  | ptr b o r' o' hb hr ho =>
    subst hr; subst ho
    obtain ⟨r1, h1, h2⟩ := sound_loadVar hs ha
    exact ⟨r1, by simp only [Instr.loadAt, Instr.sureAddr, Sem.run_bind, Sem.run_pure, Result.andThen_ok, h1], h2⟩
  | fp cs k r' o o' ds hrom hle ho hxy hone =>
    subst ho
    simp only [aload, fzN_lit] at ha
    obtain ⟨r1, h1, h2⟩ := (hs.heldRom hrom hle hxy hone).loadVar ha
    exact ⟨r1, by simp only [Instr.loadAt, Instr.sureAddr, Sem.run_bind, Sem.run_pure, Result.andThen_ok, h1], h2⟩
  | func fn xs ys cs ds hfn => exfalso; cases fn <;> simp [Fn.plain, aload] at hfn ha
  | _ => simp [aload, junk] at ha
end Go.Am

set_option linter.unusedVariables false
set_option linter.unusedSimpArgs false
/- Writing and making. -/
namespace Go.Am
open Go
def blit (c : Array Value) (o : Nat) : List Value → Array Value
  | [] => c
  | v :: r => blit (c.setIfInBounds o v) (o + 1) r
theorem size_blit (c : Array Value) (o : Nat) (vs : List Value) : (blit c o vs).size = c.size := by
  induction vs generalizing c o with
  | nil => rfl
  | cons v r ih => simp [blit, ih]
def storable : Value → Bool
  | .tuple _ => false
  | .chan _ => false
  | _ => true
theorem storable_cells {f : Emb} {L : Nat} {v v' : Value} (h : storable v = true) (r : VRel f L v v') :
    v.cells.size = v'.cells.size ∧ ∀ i : Nat, VRel f L (v.cells.getD i junk) (v'.cells.getD i junk) ∧ (v'.cells.getD i junk).oneCell' = true := by
  have one : ∀ (x y : Value), VRel f L x y → y.oneCell' = true → x.cells = #[x] → y.cells = #[y] →
      x.cells.size = y.cells.size ∧ ∀ i : Nat, VRel f L (x.cells.getD i junk) (y.cells.getD i junk) ∧ (y.cells.getD i junk).oneCell' = true := by
    intro x y hxy ho hx hy
    rw [hx, hy]
    refine ⟨rfl, fun i => ?_⟩
    cases i with
    | zero => exact ⟨hxy, ho⟩
    | succ i => simp [Array.getD]; exact ⟨.junk _, rfl⟩
  cases r with
  | junk => simp [storable, junk] at h
  | tuple => simp [storable] at h
  | agg xs ys hx hxy hone => exact ⟨hx, fun i => ⟨hxy i, hone i⟩⟩
  | bool b => exact one _ _ (.bool b) rfl rfl rfl
  | int k n => exact one _ _ (.int k n) rfl rfl rfl
  | string s => exact one _ _ (.string s) rfl rfl rfl
  | nilFunc => exact one _ _ .nilFunc rfl rfl rfl
  | nilIface => exact one _ _ .nilIface rfl rfl rfl
  | nilPtr => exact one _ _ .nilPtr rfl rfl rfl
  | ptr b o r o' hb hr ho => exact one _ _ (.ptr b o r o' hb hr ho) rfl rfl rfl
  | nilMap => exact one _ _ .nilMap rfl rfl rfl
  | map b r hb hr => exact one _ _ (.map b r hb hr) rfl rfl rfl
  | nilSlice l c => exact one _ _ (.nilSlice l c) rfl rfl rfl
  | slice b o l c c' r o' hb hr ho hc => exact one _ _ (.slice b o l c c' r o' hb hr ho hc) rfl rfl rfl
  | slice0 a a' hb => exact one _ _ (.slice0 a a' hb) rfl rfl rfl
  | func fn xs ys cs ds hfn hx hxy hc hcd => exact one _ _ (.func fn xs ys cs ds hfn hx hxy hc hcd) rfl rfl rfl
  | iface t v v' hv => exact one _ _ (.iface t v v' hv) rfl rfl rfl
  | fz cs n r o c ds hrom hle hn hxy hone => exact one _ _ (.fz cs n r o c ds hrom hle hn hxy hone) rfl rfl rfl
  | fz0 a c => exact one _ _ (.fz0 a c) rfl rfl rfl
  | bnil => exact one _ _ .bnil rfl rfl rfl
  | fp cs k r o o' ds hrom hle ho hxy hone => exact one _ _ (.fp cs k r o o' ds hrom hle ho hxy hone) rfl rfl rfl
theorem setCell_heap {w : World} {r : Nat} {c : Array Value} {t : TypeId} {fr : Nat × Nat} (h : w.heap[r]? = some (.cells c t fr)) (o : Nat) (v : Value) :
    (w.setCell ⟨r, o, none⟩ v).heap[r]? = some (.cells (c.setIfInBounds o v) t fr) ∧ (∀ r', r' ≠ r → (w.setCell ⟨r, o, none⟩ v).heap[r']? = w.heap[r']?) := by
  constructor
  · simp [World.setCell, Array.getElem?_modify, h]
  · intro r' hr'
    simp only [World.setCell, Array.getElem?_modify]
    rw [if_neg (fun e => hr' e.symm)]
theorem setCells_heap (vs : List Value) : ∀ {w : World} {r : Nat} {c : Array Value} {t : TypeId} {fr : Nat × Nat}, w.heap[r]? = some (.cells c t fr) → ∀ (o : Nat),
    (w.setCells r o vs).heap[r]? = some (.cells (blit c o vs) t fr) ∧ (∀ r', r' ≠ r → (w.setCells r o vs).heap[r']? = w.heap[r']?) ∧
      (w.setCells r o vs).os = w.os ∧ (w.setCells r o vs).tape = w.tape ∧ (w.setCells r o vs).output = w.output ∧ (w.setCells r o vs).heap.size = w.heap.size ∧ (w.setCells r o vs).drawn = w.drawn := by
  induction vs with
  | nil => intro w r c t fr h o; exact ⟨h, fun _ _ => rfl, rfl, rfl, rfl, rfl, rfl⟩
  | cons v rest ih =>
    intro w r c t fr h o
    obtain ⟨h1, h2⟩ := setCell_heap h o v
    obtain ⟨h3, h4, h5, h6, h7, h8, h9⟩ := ih h1 (o + 1)
    refine ⟨h3, fun r' hr' => (h4 r' hr').trans (h2 r' hr'), h5, h6, h7, ?_, h9⟩
    show ((w.setCell ⟨r, o, none⟩ v).setCells r (o + 1) rest).heap.size = _
    rw [h8]; simp
theorem ORel.set {f : Emb} {L : Nat} {I : Img} {c c' : Array Value} {es : Nat} {elem : TypeId} {fr : Nat × Nat} (h : ORel f L I (.cells c es true) (.cells c' elem fr)) {o : Nat} (ho : o < c.size)
    {v v' : Value} (hv : VRel f L v v') (h1 : v'.oneCell' = true) : ORel f L I (.cells (c.setIfInBounds o v) es true) (.cells (c'.setIfInBounds (I.off + o) v') elem fr) := by
  obtain ⟨c'', elem', fr', he, h2, h3, h4, h5, h6, h7⟩ := h
  cases he
  refine ⟨_, _, _, rfl, by simpa using h2, h3, h4, by simpa using h5, by simpa using h6, fun i hi => ?_⟩
  have hi' : i < c.size := by simpa using hi
  by_cases e : o = i
  · subst e
    have hlt : I.off + o < c'.size := by omega
    simp [Array.getD, hi', hlt]
    exact ⟨hv, h1⟩
  · have h8 := h7 i hi'
    simp only [Array.getD_eq_getD_getElem?] at h8 ⊢
    rw [Array.getElem?_setIfInBounds_ne e, Array.getElem?_setIfInBounds_ne (by omega)]
    exact h8
theorem ORel.blit {f : Emb} {L : Nat} {I : Img} {es : Nat} {elem : TypeId} {fr : Nat × Nat} (vs : List Value) : ∀ (vs' : List Value) (c c' : Array Value) (o : Nat),
    ORel f L I (.cells c es true) (.cells c' elem fr) → vs.length = vs'.length → o + vs.length ≤ c.size → (∀ i : Nat, VRel f L (vs.getD i junk) (vs'.getD i junk) ∧ (vs'.getD i junk).oneCell' = true) →
    ORel f L I (.cells (blit c o vs) es true) (.cells (Am.blit c' (I.off + o) vs') elem fr) := by
  induction vs with
  | nil =>
    intro vs' c c' o h hl _ _
    cases vs' with
    | nil => exact h
    | cons => simp at hl
  | cons v r ih =>
    intro vs' c c' o h hl ho hv
    cases vs' with
    | nil => simp at hl
    | cons v' r' =>
      simp only [List.length_cons] at hl ho
      have h0 := hv 0
      have h1 := h.set (o := o) (by omega) h0.1 h0.2
      have := ih r' _ _ (o + 1) h1 (by omega) (by simp; omega) (fun i => by simpa using hv (i + 1))
      simpa [Am.blit, Nat.add_assoc] using this
/-- writing cells, whatever they are -/
theorem sound_storeCells {P : Program} {f : Emb} {h : AH} {w : World} (hs : Sim P f h w) {b es : Nat} {c : Array Value} (hb : h[b]? = some (.cells c es true)) {o : Nat} {vs vs' : List Value}
    (hl : vs.length = vs'.length) (ho : o + vs.length ≤ c.size) (hv : ∀ i : Nat, VRel f h.length (vs.getD i junk) (vs'.getD i junk) ∧ (vs'.getD i junk).oneCell' = true) :
    ∃ w1, (storeCells ⟨(f b).blk, (f b).off + o, none⟩ vs').run P w = .ok () w1 ∧ Step P f h w f (h.set b (.cells (blit c o vs) es true)) w1 := by
  obtain ⟨o', ho', hrel⟩ := hs.obj b _ hb rfl
  have hrel0 := hrel
  obtain ⟨c', elem, fr, rfl, h2, h3, h4, h5, h6, h7⟩ := hrel
  obtain ⟨hN, hfr⟩ := h5 rfl
  have hlen : ∀ j, j < vs'.length → (f b).off + o + j < c'.size := fun j hj => by omega
  have hrun := run_storeCells_cells (P := P) (f b).blk ((f b).off + o) vs' 0 w
    (fun j hj => by rw [cell_of_block ho']; simp [hlen j hj])
    (fun j hj => by
      simp only [World.frozen?, ho']
      exact hfr.at _ (by simpa using hlen j hj))
    (fun v hv' => by
      obtain ⟨i, hi⟩ := List.mem_iff_getElem?.1 hv'
      have := (hv i).2
      simpa [List.getD, hi] using this)
  obtain ⟨g1, g2, g3, g4, g5, g6, g7⟩ := setCells_heap vs' ho' ((f b).off + o + 0)
  refine ⟨_, hrun, Step.write hs hb rfl rfl ok_cells g1 ?_ g2 g3 g4 g5 g6 g7⟩
  exact ORel.blit vs vs' c c' o hrel0 hl ho hv
def astore (P : Program) (h : AH) (t : TypeId) (av v : Value) : Option AH :=
  match av with
  | .pointer (some ⟨b, o, none⟩) =>
    match h[b]? with
    | some (.cells c es true) =>
      match P.info? t with
      | some i => if storable v = true ∧ v.cells.size = i.size ∧ o + v.cells.size ≤ c.size then some (h.set b (.cells (blit c o v.cells.toList) es true)) else none
      | none => none
    | _ => none
  | _ => none
theorem sound_store {P : Program} {f : Emb} {h h1 : AH} {w : World} (hs : Sim P f h w) {t : TypeId} {p p' v v' : Value} (hp : VRel f h.length p p') (hv : VRel f h.length v v')
    (ha : astore P h t p v = some h1) : ∃ w1, (Instr.storeAt t p' v').run P w = .ok () w1 ∧ Step P f h w f h1 w1 := by
  cases hp with
  | ptr b o r' o' hb hr ho =>
    subst hr; subst ho
    simp only [astore] at ha
    split at ha
    · rename_i c es hb'
      split at ha
      · rename_i i hi
        split at ha
        · rename_i hcond
          obtain ⟨h2, h3, h4⟩ := hcond
          simp only [Option.some.injEq] at ha
          subst ha
          obtain ⟨h5, h6⟩ := storable_cells h2 hv
          obtain ⟨w1, h7, h8⟩ := sound_storeCells hs hb' (o := o) (vs := v.cells.toList) (vs' := v'.cells.toList) (by simpa using h5) (by simpa using h4) (fun j => by
            have := h6 j
            simpa [Array.getD_eq_getD_getElem?, List.getD] using this)
          refine ⟨w1, ?_, h8⟩
          have hsz : ¬ (v'.cells.size ≠ P.cellsOf t) := by simp [Program.cellsOf, hi]; omega
          simp only [Instr.storeAt, Instr.sureAddr, Sem.run_bind, Sem.run_pure, Result.andThen_ok, storeVar, run_sizeOf w hi, hsz, if_false, h7]
        · cases ha
      · cases ha
    · cases ha
  | _ => simp [astore, junk] at ha
/-! ### making -/
theorem cells_orel {f : Emb} {L : Nat} {c c' : Array Value} {es : Nat} {elem : TypeId} {r : Nat} (hsz : c.size = c'.size)
    (hr : ∀ i : Nat, VRel f L (c.getD i junk) (c'.getD i junk) ∧ (c'.getD i junk).oneCell' = true) (rw : Bool) (htag : tagN ≤ es → es = tagN + elem) :
    ORel f L ⟨r, 0, c.size, c.size, es⟩ (.cells c es rw) (.cells c' elem (0, 0)) :=
  ⟨c', elem, (0, 0), rfl, rfl, rfl, by simp, fun _ => ⟨by simp [hsz], NoFr.zero _, fun h => ⟨htag h, rfl, hsz⟩⟩, by simp [hsz], fun i _ => by simpa using hr i⟩
theorem sound_newVar {P : Program} {f : Emb} {h : AH} {w : World} (hs : Sim P f h w) (t : TypeId) (es : Nat) (htag : tagN ≤ es → es = tagN + t) {v v' : Value} (hv : VRel f h.length v v') (hst : storable v = true) :
    ∃ f1 w1, (newVar t v').run P w = .ok ⟨w.heap.size, 0, none⟩ w1 ∧ Step P f h w f1 (h ++ [.cells v.cells es true]) w1 ∧ f1 h.length = ⟨w.heap.size, 0, v.cells.size, v.cells.size, es⟩ := by
  obtain ⟨h5, h6⟩ := storable_cells hst hv
  exact ⟨_, _, by simp [newVar, newRow], Step.alloc hs (.cells v.cells es true) (.cells v'.cells t) ⟨w.heap.size, 0, v.cells.size, v.cells.size, es⟩ rfl (cells_orel h5 h6 true htag), upd_eq _ _ _⟩
theorem new_ptr {f1 : Emb} {L : Nat} {I : Img} (h : f1 L = I) (ho : I.off = 0) : VRel f1 (L + 1) (.pointer (some ⟨L, 0, none⟩)) (.pointer (some ⟨I.blk, 0, none⟩)) :=
  .ptr L 0 _ _ (by omega) (by rw [h]) (by rw [h, ho])
def abox (h : AH) (v : Value) : Option (Value × AH) :=
  if storable v then some (.pointer (some ⟨h.length, 0, none⟩), h ++ [.cells v.cells 0 true]) else none
theorem sound_box {P : Program} {f : Emb} {h : AH} {w : World} (hs : Sim P f h w) (t : TypeId) {v v' : Value} (hv : VRel f h.length v v') {r : Value} {h1 : AH} (ha : abox h v = some (r, h1)) :
    ∃ f1 r' w1, (Instr.box t v').run P w = .ok r' w1 ∧ Step P f h w f1 h1 w1 ∧ VRel f1 h1.length r r' := by
  unfold abox at ha
  split at ha
  · rename_i hst
    simp only [Option.some.injEq, Prod.mk.injEq] at ha
    obtain ⟨rfl, rfl⟩ := ha
    obtain ⟨f1, w1, h2, h3, h4⟩ := sound_newVar hs t 0 (fun h => absurd h (by decide)) hv hst
    refine ⟨f1, .pointer (some ⟨w.heap.size, 0, none⟩), w1, by simp only [Instr.box, Sem.run_bind, h2, Result.andThen_ok, Sem.run_pure], h3, ?_⟩
    have := new_ptr h4 rfl
    simpa using this
  · cases ha
/-- strings.Builder -/
def isBld (P : Program) (t : TypeId) : Bool :=
  match P.info? t with
  | some i => match i.desc with
    | .named n _ => n == "strings.Builder"
    | _ => false
  | none => false
/-- the slice of a builder that has not been written -/
def bnil : Value := .func (.yield 2) #[] #[]
def abld (h : AH) (t : TypeId) (z : Value) : Option (Value × AH) :=
  match z.cells.toList with
  | [.pointer none, .slice none 0 0] => some (.pointer (some ⟨h.length, 0, none⟩), h ++ [.cells #[.pointer none, bnil] (tagN + t) true])
  | _ => none
def aalloc (P : Program) (h : AH) (t : TypeId) : Option (Value × AH) :=
  match P.info? t with
  | some i => match i.zero with
    | some z => if isBld P t then abld h t z else if plainB z && storable z then some (.pointer (some ⟨h.length, 0, none⟩), h ++ [.cells z.cells 0 true]) else none
    | none => none
  | none => none
theorem run_zeroValue {P : Program} {t : TypeId} {i : TypeInfo} {z : Value} (hi : P.info? t = some i) (hz : i.zero = some z) (w : World) : (zeroValue t).run P w = .ok z w := by
  simp [zeroValue, run_typeInfo w hi, hz]
theorem sound_alloc {P : Program} {f : Emb} {h : AH} {w : World} (hs : Sim P f h w) (t : TypeId) {r : Value} {h1 : AH} (ha : aalloc P h t = some (r, h1)) :
    ∃ f1 r' w1, (Instr.alloc t true (.tuple #[])).run P w = .ok r' w1 ∧ Step P f h w f1 h1 w1 ∧ VRel f1 h1.length r r' := by
  unfold aalloc at ha
  split at ha
  · rename_i i hi
    split at ha
    · rename_i z hz
      split at ha
      · unfold abld at ha
        split at ha
        case h_2 => cases ha
        rename_i hzc
        cases ha
        have hzc' : z.cells = #[.pointer none, .slice none 0 0] := by
          have := congrArg List.toArray hzc
          simpa using this
        have hor : ORel f h.length ⟨w.heap.size, 0, 2, 2, tagN + t⟩ (.cells #[.pointer none, bnil] (tagN + t) true) (.cells z.cells t (0, 0)) := by
          rw [hzc']
          have hcr : ∀ i : Nat, VRel f h.length ((#[.pointer none, bnil] : Array Value).getD i junk) ((#[.pointer none, .slice none 0 0] : Array Value).getD i junk) ∧ ((#[.pointer none, .slice none 0 0] : Array Value).getD i junk).oneCell' = true := fun i => by
            match i with
            | 0 => exact ⟨.nilPtr, rfl⟩
            | 1 => exact ⟨.bnil, rfl⟩
            | i + 2 => exact ⟨by simp [Array.getD]; exact .junk _, by simp [Array.getD]; rfl⟩
          exact cells_orel (c := #[.pointer none, bnil]) (c' := #[.pointer none, .slice none 0 0]) rfl hcr true (fun _ => rfl)
        have st := Step.alloc hs (.cells #[.pointer none, bnil] (tagN + t) true) (.cells z.cells t (0, 0)) ⟨w.heap.size, 0, 2, 2, tagN + t⟩ rfl hor
        refine ⟨_, .pointer (some ⟨w.heap.size, 0, none⟩), _, ?_, st, ?_⟩
        · simp only [Instr.alloc, Sem.run_bind, run_zeroValue hi hz, newVar, newRow, run_newObj, Result.andThen_ok, Sem.run_pure]
          rfl
        · have := new_ptr (f1 := upd f h.length ⟨w.heap.size, 0, 2, 2, tagN + t⟩) (upd_eq f h.length _) rfl
          simpa using this
      split at ha
      · rename_i hp
        simp only [Bool.and_eq_true] at hp
        simp only [Option.some.injEq, Prod.mk.injEq] at ha
        obtain ⟨rfl, rfl⟩ := ha
        obtain ⟨f1, w1, h2, h3, h4⟩ := sound_newVar hs t 0 (fun h => absurd h (by decide)) (plain_refl (f := f) (L := h.length) hp.1) hp.2
        refine ⟨f1, .pointer (some ⟨w.heap.size, 0, none⟩), w1, by simp only [Instr.alloc, Sem.run_bind, run_zeroValue hi hz, h2, Result.andThen_ok, Sem.run_pure], h3, ?_⟩
        have := new_ptr h4 rfl
        simpa using this
      · cases ha
    · cases ha
  · cases ha
end Go.Am

set_option linter.unusedVariables false
set_option linter.unusedSimpArgs false
/- Composites, indexes, slices. -/
namespace Go.Am
open Go
theorem fold_blit (off : Nat) (l : List Value) : ∀ (k : Nat) (cells : Array Value),
    (l.zipIdx k).foldl (fun (cs : Array Value) (x : Value × Nat) => cs.setIfInBounds (off + x.2) x.1) cells = blit cells (off + k) l := by
  induction l with
  | nil => intro k cells; rfl
  | cons v r ih => intro k cells; simp only [List.zipIdx_cons, List.foldl_cons, ih, blit, Nat.add_assoc]
def afill (place : Nat → Option (Nat × Nat)) (cells : Array Value) : List (Nat × Value) → Option (Array Value)
  | [] => some cells
  | (i, v) :: rest =>
    match place i with
    | none => none
    | some (off, size) => if storable v = true ∧ v.cells.size = size ∧ off + v.cells.size ≤ cells.size then afill place (blit cells off v.cells.toList) rest else none
/-- rows of values, and of cells -/
def CRel (f : Emb) (L : Nat) (c c' : Array Value) : Prop := c.size = c'.size ∧ ∀ i : Nat, VRel f L (c.getD i junk) (c'.getD i junk) ∧ (c'.getD i junk).oneCell' = true
theorem CRel.set {f : Emb} {L : Nat} {c c' : Array Value} (h : CRel f L c c') (o : Nat) {v v' : Value} (hv : VRel f L v v') (h1 : v'.oneCell' = true) :
    CRel f L (c.setIfInBounds o v) (c'.setIfInBounds o v') := by
  refine ⟨by simpa using h.1, fun i => ?_⟩
  by_cases e : o = i
  · subst e
    by_cases hi : o < c.size
    · have hi' : o < c'.size := h.1 ▸ hi
      simp [Array.getD, hi, hi']
      exact ⟨hv, h1⟩
    · have hi' : ¬ o < c'.size := h.1 ▸ hi
      rw [getD_ge o (by simpa using hi), getD_ge o (by simpa using hi')]
      exact ⟨.junk _, rfl⟩
  · have h8 := h.2 i
    simp only [Array.getD_eq_getD_getElem?] at h8 ⊢
    rw [Array.getElem?_setIfInBounds_ne e, Array.getElem?_setIfInBounds_ne e]
    exact h8
theorem CRel.blit {f : Emb} {L : Nat} (vs : List Value) : ∀ (vs' : List Value) (c c' : Array Value) (o : Nat), CRel f L c c' → vs.length = vs'.length →
    (∀ i : Nat, VRel f L (vs.getD i junk) (vs'.getD i junk) ∧ (vs'.getD i junk).oneCell' = true) → CRel f L (blit c o vs) (Am.blit c' o vs') := by
  induction vs with
  | nil =>
    intro vs' c c' o h hl _
    cases vs' with
    | nil => exact h
    | cons => simp at hl
  | cons v r ih =>
    intro vs' c c' o h hl hv
    cases vs' with
    | nil => simp at hl
    | cons v' r' =>
      simp only [List.length_cons] at hl
      have h0 := hv 0
      exact ih r' _ _ (o + 1) (h.set o h0.1 h0.2) (by omega) (fun i => by simpa using hv (i + 1))
theorem CRel.of_storable {f : Emb} {L : Nat} {v v' : Value} (h : storable v = true) (r : VRel f L v v') : CRel f L v.cells v'.cells := storable_cells h r
theorem CRel.list {f : Emb} {L : Nat} {c c' : Array Value} (h : CRel f L c c') : c.toList.length = c'.toList.length ∧
    ∀ i : Nat, VRel f L (c.toList.getD i junk) (c'.toList.getD i junk) ∧ (c'.toList.getD i junk).oneCell' = true :=
  ⟨by simpa using h.1, fun i => by simpa [Array.getD_eq_getD_getElem?, List.getD] using h.2 i⟩
theorem CRel.agg {f : Emb} {L : Nat} {c c' : Array Value} (h : CRel f L c c') : VRel f L (.agg c) (.agg c') := .agg _ _ h.1 (fun i => (h.2 i).1) (fun i => (h.2 i).2)
def PRel (f : Emb) (L : Nat) : List (Nat × Value) → List (Nat × Value) → Prop
  | [], [] => True
  | (i, v) :: r, (i', v') :: r' => i = i' ∧ VRel f L v v' ∧ PRel f L r r'
  | _, _ => False
theorem fill_rel {f : Emb} {L : Nat} (place : Nat → Option (Nat × Nat)) (ps : List (Nat × Value)) : ∀ (ps' : List (Nat × Value)) (c c' r : Array Value), CRel f L c c' → PRel f L ps ps' →
    afill place c ps = some r → ∃ r', Instr.fill place c' ps' = some r' ∧ CRel f L r r' := by
  induction ps with
  | nil =>
    intro ps' c c' r h hp ha
    cases ps' with
    | nil => simp only [afill, Option.some.injEq] at ha; subst ha; exact ⟨c', rfl, h⟩
    | cons => simp [PRel] at hp
  | cons p rest ih =>
    intro ps' c c' r h hp ha
    obtain ⟨i, v⟩ := p
    cases ps' with
    | nil => simp [PRel] at hp
    | cons p' rest' =>
      obtain ⟨i', v'⟩ := p'
      obtain ⟨rfl, hv, hr⟩ := hp
      simp only [afill] at ha
      split at ha
      · cases ha
      · rename_i off size hpl
        split at ha
        · rename_i hc
          obtain ⟨h1, h2, h3⟩ := hc
          have hcr := CRel.of_storable h1 hv
          obtain ⟨hl, hl2⟩ := hcr.list
          obtain ⟨r', h4, h5⟩ := ih rest' _ _ r (CRel.blit _ _ c c' off h hl hl2) hr ha
          refine ⟨r', ?_, h5⟩
          simp only [Instr.fill, hpl]
          have hb : ¬ ((v'.cells.size ≠ size || off + v'.cells.size > c'.size) = true) := by
            have := hcr.1; have := h.1
            simp; omega
          have hz : (v'.cells.zipIdx.foldl (fun (cs : Array Value) (x : Value × Nat) => cs.setIfInBounds (off + x.2) x.1) c') = Am.blit c' off v'.cells.toList := by
            rw [← Array.foldl_toList, Array.toList_zipIdx, fold_blit]
            simp
          simp only [bne_iff_ne, ne_eq, Bool.or_eq_true, decide_eq_true_eq] at hb ⊢
          rw [if_neg hb]
          rw [← h4]
          exact congrArg (fun x => Instr.fill place x rest') hz
        · cases ha
theorem plain_crel {f : Emb} {L : Nat} {z : Value} (h : plainB z = true) (hs : storable z = true) : CRel f L z.cells z.cells := CRel.of_storable hs (plain_refl h)
def abuild (P : Program) (t : TypeId) (parts : List (Nat × Value)) : Option Value :=
  match P.info? t with
  | some i => match i.zero with
    | some z => if plainB z && storable z then
        match P.underlying t with
        | some (.struct fields) => match pureRun P (fields.mapM fun f => do pure (f.offset, ← sizeOf f.type) : Sem _) with
          | some places => (afill (places[·]?) z.cells parts).map .agg
          | none => none
        | some (.array _ elem) => match P.info? elem with
          | some ie => (afill (fun i => some (i * ie.size, ie.size)) z.cells parts).map .agg
          | none => none
        | _ => none
      else none
    | none => none
  | none => none
theorem sound_build {P : Program} {f : Emb} {L : Nat} (w : World) (t : TypeId) {parts parts' : Array (Nat × Value)} (hp : PRel f L parts.toList parts'.toList) {r : Value} (ha : abuild P t parts.toList = some r) :
    ∃ r', (Instr.build t parts').run P w = .ok r' w ∧ VRel f L r r' := by
  unfold abuild at ha
  split at ha
  · rename_i i hi
    split at ha
    · rename_i z hz
      split at ha
      · rename_i hpz
        simp only [Bool.and_eq_true] at hpz
        have hcr : CRel f L z.cells z.cells := plain_crel hpz.1 hpz.2
        split at ha
        · rename_i fields hu
          split at ha
          · rename_i places hpl
            simp only [Option.map_eq_some_iff] at ha
            obtain ⟨cs, h1, rfl⟩ := ha
            obtain ⟨r', h2, h3⟩ := fill_rel _ _ parts'.toList _ _ cs hcr hp h1
            refine ⟨.agg r', ?_, h3.agg⟩
            have hrun := pureRun_run hpl w
            simp only [Instr.build, Sem.run_bind, run_zeroValue hi hz, Result.andThen_ok, run_underlying hu, hrun, h2, Sem.run_pure]
          · cases ha
        · rename_i n elem hu
          split at ha
          · rename_i ie hie
            simp only [Option.map_eq_some_iff] at ha
            obtain ⟨cs, h1, rfl⟩ := ha
            obtain ⟨r', h2, h3⟩ := fill_rel _ _ parts'.toList _ _ cs hcr hp h1
            refine ⟨.agg r', ?_, h3.agg⟩
            have hsz : P.cellsOf elem = ie.size := by simp [Program.cellsOf, hie]
            simp only [Instr.build, Sem.run_bind, run_zeroValue hi hz, Result.andThen_ok, run_underlying hu, run_sizeOf w hie, hsz, h2, Sem.run_pure]
          · cases ha
        · cases ha
      · cases ha
    · cases ha
  · cases ha
/-- so many zeros -/
def zeros (z : Array Value) (n : Nat) : Array Value := (Array.range n).map (z[· % z.size]!)
theorem size_zeros (z : Array Value) (n : Nat) : (zeros z n).size = n := by simp [zeros]
theorem zeros_crel {f : Emb} {L : Nat} {z : Array Value} (h : z.all plain1 = true) (hz : 0 < z.size) (n : Nat) : CRel f L (zeros z n) (zeros z n) := by
  refine ⟨rfl, fun i => ?_⟩
  by_cases hi : i < n
  · have e : (zeros z n).getD i junk = z.getD (i % z.size) junk := by
      have hm : i % z.size < z.size := Nat.mod_lt _ hz
      simp [zeros, Array.getD, hi, hm]
    rw [e]
    have := getD_all h (i % z.size) (Nat.mod_lt _ hz)
    exact ⟨plain1_refl this, plain1_one this⟩
  · rw [getD_ge i (by simpa [zeros] using hi)]
    exact ⟨.junk _, rfl⟩
def zeroCellsOf (P : Program) (t : TypeId) : Option (Array Value) :=
  match P.info? t with
  | some i => match i.zero with
    | some z => if z.cells.all plain1 && decide (z.cells.size = i.size) && decide (0 < i.size) && (decide (i.size < tagN) && !isBld P t) then some z.cells else none
    | none => none
  | none => none
theorem zeroCellsOf_spec {P : Program} {t : TypeId} {zc : Array Value} (h : zeroCellsOf P t = some zc) : ∃ i z, P.info? t = some i ∧ i.zero = some z ∧ z.cells = zc ∧ zc.all plain1 = true ∧ zc.size = i.size ∧ 0 < i.size := by
  unfold zeroCellsOf at h
  split at h
  · rename_i i hi
    split at h
    · rename_i z hz
      split at h
      · rename_i hc
        simp only [Bool.and_eq_true, decide_eq_true_eq] at hc
        simp only [Option.some.injEq] at h
        subst h
        exact ⟨i, z, hi, hz, rfl, hc.1.1.1, hc.1.1.2, hc.1.2⟩
      · cases h
    · cases h
  · cases h
theorem zeroCellsOf_tag {P : Program} {t : TypeId} {zc : Array Value} (h : zeroCellsOf P t = some zc) : zc.size < tagN ∧ isBld P t = false := by
  unfold zeroCellsOf at h
  split at h
  · rename_i i hi
    split at h
    · rename_i z hz
      split at h
      · rename_i hc
        simp only [Bool.and_eq_true, decide_eq_true_eq, Bool.not_eq_true'] at hc
        simp only [Option.some.injEq] at h
        subst h
        exact ⟨by rw [hc.1.1.2]; exact hc.2.1, hc.2.2⟩
      · cases h
    · cases h
  · cases h
def abuildSlice (P : Program) (h : AH) (t : TypeId) (len : Nat) (parts : List (Nat × Value)) : Option (Value × AH) :=
  match P.underlying t with
  | some (.slice elem) => match zeroCellsOf P elem with
    | some zc => if len * zc.size ≤ 2 ^ 24 then
        match afill (fun i => some (i * zc.size, zc.size)) (zeros zc (len * zc.size)) parts with
        | some cells => some (.slice (some ⟨h.length, 0, none⟩) len len, h ++ [.cells cells zc.size true])
        | none => none
      else none
    | none => none
  | _ => none
theorem size_afill {place : Nat → Option (Nat × Nat)} (ps : List (Nat × Value)) : ∀ {c r : Array Value}, afill place c ps = some r → r.size = c.size := by
  induction ps with
  | nil => intro c r h; simp [afill] at h; subst h; rfl
  | cons p rest ih =>
    intro c r h
    obtain ⟨i, v⟩ := p
    simp only [afill] at h
    split at h
    · cases h
    · split at h
      · rw [ih h, size_blit]
      · cases h
theorem new_slice {f1 : Emb} {L : Nat} {I : Img} (h : f1 L = I) (ho : I.off = 0) (l c c' : Nat) (hc : CapRel I 0 c c') :
    VRel f1 (L + 1) (.slice (some ⟨L, 0, none⟩) l c) (.slice (some ⟨I.blk, 0, none⟩) l c') :=
  .slice L 0 l c c' _ _ (by omega) (by rw [h]) (by rw [h, ho]) (by rw [h]; exact hc)
theorem sound_buildSlice {P : Program} {f : Emb} {h : AH} {w : World} (hs : Sim P f h w) (t : TypeId) (len : Nat) {parts parts' : Array (Nat × Value)} (hp : PRel f h.length parts.toList parts'.toList)
    {r : Value} {h1 : AH} (ha : abuildSlice P h t len parts.toList = some (r, h1)) :
    ∃ f1 r' w1, (Instr.buildSlice t len parts').run P w = .ok r' w1 ∧ Step P f h w f1 h1 w1 ∧ VRel f1 h1.length r r' := by
  unfold abuildSlice at ha
  split at ha
  · rename_i elem hu
    split at ha
    · rename_i zc hzc
      obtain ⟨i, z, hi, hz, hzc', hall, hsz, hpos⟩ := zeroCellsOf_spec hzc
      split at ha
      · rename_i hle
        split at ha
        · rename_i cells hf
          simp only [Option.some.injEq, Prod.mk.injEq] at ha
          obtain ⟨rfl, rfl⟩ := ha
          obtain ⟨cells', h2, h3⟩ := fill_rel _ _ parts'.toList _ _ cells (zeros_crel (f := f) (L := h.length) hall (by omega) (len * zc.size)) hp hf
          have hcs : P.cellsOf elem = zc.size := by simp [Program.cellsOf, hi, hsz]
          have hsize : cells.size = len * zc.size := by rw [size_afill _ hf, size_zeros]
          have hst := Step.alloc hs (.cells cells zc.size true) (.cells cells' elem) ⟨w.heap.size, 0, cells.size, cells.size, zc.size⟩ rfl (cells_orel h3.1 h3.2 true (fun h => absurd h (by have := (zeroCellsOf_tag hzc).1; omega)))
          refine ⟨_, .slice (some ⟨w.heap.size, 0, none⟩) len len, _, ?_, hst, ?_⟩
          · have hn : ¬ (len * zc.size > 2 ^ 24) := by omega
            by_cases h0 : len * zc.size = 0
            · have e0 : (Array.range 0).map (fun x => (#[] : Array Value)[x % (#[] : Array Value).size]!) = zeros zc 0 := by simp [zeros]
              rw [h0] at h2
              rw [← e0] at h2
              have hn0 : ¬ ((0 : Nat) > 2 ^ 24) := by omega
              simp only [Instr.buildSlice, Sem.run_bind, run_underlying hu, Result.andThen_ok, run_sizeOf w hi, hcs, h0, hn0, if_false, if_true, Sem.run_pure, h2, newRow, run_newObj]
              rfl
            · have e1 : (Array.range (len * zc.size)).map (fun x => zc[x % zc.size]!) = zeros zc (len * zc.size) := rfl
              simp only [Instr.buildSlice, Sem.run_bind, run_underlying hu, Result.andThen_ok, run_sizeOf w hi, hcs, hn, if_false, h0, Sem.run_pure, run_zeroValue hi hz, hzc', e1, h2, newRow, run_newObj]
              rfl
          · have := new_slice (f1 := upd f h.length ⟨w.heap.size, 0, cells.size, cells.size, zc.size⟩) (L := h.length) (upd_eq _ _ _) rfl len len len (.inl rfl)
            simpa using this
        · cases ha
      · cases ha
    · cases ha
  · cases ha
end Go.Am

set_option linter.unusedVariables false
set_option linter.unusedSimpArgs false
/- Parts, addresses, slices. -/
namespace Go.Am
open Go
def apart (P : Program) (t : TypeId) (cs : Array Value) (off : Nat) : Option Value :=
  match P.underlying t, P.info? t with
  | some d, some i => if isAggD d then (if off + i.size ≤ cs.size then some (.agg (cs.extract off (off + i.size))) else none) else cs[off]?
  | _, _ => none
theorem getD_extract (c : Array Value) (o n i : Nat) (h : o + n ≤ c.size) : (c.extract o (o + n)).getD i junk = if i < n then c.getD (o + i) junk else junk := by
  by_cases hi : i < n
  · have h1 : o + i < c.size := by omega
    have h3 : i < min (o + n) c.size - o := by omega
    simp [Array.getD, h1, h3, hi]
  · rw [getD_ge i (by simp; omega), if_neg hi]
theorem sound_part {P : Program} {f : Emb} {L : Nat} (w : World) {t : TypeId} {cs ds : Array Value} (hc : CRel f L cs ds) {off : Nat} {r : Value} (ha : apart P t cs off = some r) :
    ∃ r', (part t ds off).run P w = .ok r' w ∧ VRel f L r r' := by
  unfold apart at ha
  split at ha
  · rename_i d i hu hi
    split at ha
    · rename_i hagg
      split at ha
      · rename_i hle
        simp only [Option.some.injEq] at ha
        subst ha
        refine ⟨.agg (ds.extract off (off + i.size)), ?_, ?_⟩
        · simp only [part, Sem.run_bind, run_isAgg hu, Result.andThen_ok, hagg, if_true, run_sizeOf w hi, Program.cellsOf, hi, Option.map_some, Option.getD_some, Sem.run_pure]
        · have hle' : off + i.size ≤ ds.size := hc.1 ▸ hle
          refine .agg _ _ (by simp; omega) (fun j => ?_) (fun j => ?_)
          · rw [getD_extract _ _ _ _ hle, getD_extract _ _ _ _ hle']
            split
            · exact (hc.2 _).1
            · exact .junk _
          · rw [getD_extract _ _ _ _ hle']
            split
            · exact (hc.2 _).2
            · rfl
      · cases ha
    · rename_i hagg
      simp only [Bool.not_eq_true] at hagg
      have hlt : off < cs.size := (Array.getElem?_eq_some_iff.1 ha).1
      have hlt' : off < ds.size := hc.1 ▸ hlt
      have he : cs.getD off junk = r := by have := (Array.getElem?_eq_some_iff.1 ha).2; simp [Array.getD, hlt, this]
      refine ⟨ds.getD off junk, ?_, he ▸ (hc.2 off).1⟩
      have : ds[off]? = some (ds.getD off junk) := by simp [Array.getD, hlt']
      simp only [part, Sem.run_bind, run_isAgg hu, Result.andThen_ok, hagg, Bool.false_eq_true, if_false, this, Sem.run_pure]
  · cases ha
theorem VRel.agg_inv {f : Emb} {L : Nat} {cs : Array Value} {v' : Value} (h : VRel f L (.agg cs) v') : ∃ ds, v' = .agg ds ∧ CRel f L cs ds := by
  generalize hv : Value.agg cs = v at h
  cases h with
  | agg xs ys hx hxy hone => cases hv; exact ⟨ys, rfl, hx, fun i => ⟨hxy i, hone i⟩⟩
  | junk => simp [Am.junk] at hv
  | _ => cases hv
theorem VRel.int_inv {f : Emb} {L : Nat} {k : IntKind} {n : Int} {v' : Value} (h : VRel f L (.int k n) v') : v' = .int k n := plain_inv rfl h
theorem VRel.bool_inv {f : Emb} {L : Nat} {b : Bool} {v' : Value} (h : VRel f L (.bool b) v') : v' = .bool b := plain_inv rfl h
theorem VRel.string_inv {f : Emb} {L : Nat} {s : ByteArray} {v' : Value} (h : VRel f L (.string s) v') : v' = .string s := plain_inv rfl h
theorem VRel.ptr_inv {f : Emb} {L : Nat} {b o : Nat} {v' : Value} (h : VRel f L (.pointer (some ⟨b, o, none⟩)) v') : v' = .pointer (some ⟨(f b).blk, (f b).off + o, none⟩) ∧ b < L := by
  generalize hv : Value.pointer (some ⟨b, o, none⟩) = v at h
  cases h with
  | ptr b' o' r o'' hb hr ho => cases hv; subst hr; subst ho; exact ⟨rfl, hb⟩
  | junk => simp [Am.junk] at hv
  | _ => cases hv
theorem VRel.tuple_inv {f : Emb} {L : Nat} {cs : Array Value} {v' : Value} (h : VRel f L (.tuple cs) v') : ∃ ds, v' = .tuple ds ∧ ARel f L cs ds := by
  generalize hv : Value.tuple cs = v at h
  cases h with
  | tuple xs ys hx hxy => cases hv; exact ⟨ys, rfl, hx, hxy⟩
  | junk => simp [Am.junk] at hv
  | _ => cases hv
def afield (P : Program) (t : TypeId) (x : Value) (k : Nat) : Option Value :=
  match P.underlying t, x with
  | some (.struct fields), .agg cs => match fields[k]? with
    | some fd => apart P fd.type cs fd.offset
    | none => none
  | _, _ => none
theorem sound_field {P : Program} {f : Emb} {L : Nat} (w : World) {t : TypeId} {x x' : Value} (hx : VRel f L x x') {k : Nat} {r : Value} (ha : afield P t x k = some r) :
    ∃ r', (Instr.field t x' k).run P w = .ok r' w ∧ VRel f L r r' := by
  unfold afield at ha
  split at ha
  · rename_i fields cs hu
    obtain ⟨ds, rfl, hc⟩ := hx.agg_inv
    split at ha
    · rename_i fd hfd
      obtain ⟨r', h1, h2⟩ := sound_part w hc ha
      exact ⟨r', by simp only [Instr.field, Sem.run_bind, run_underlying hu, Result.andThen_ok, hfd, asAgg, Sem.run_pure, h1], h2⟩
    · cases ha
  · cases ha
def aindex (P : Program) (t : TypeId) (x ix : Value) : Option Value :=
  match P.underlying t, x, ix with
  | some (.array n elem), .agg cs, .int _ i => match P.info? elem with
    | some ie => if 0 ≤ i ∧ i < n then apart P elem cs (i.toNat * ie.size) else none
    | none => none
  | some .string, .string s, .int _ i => if 0 ≤ i then (s[i.toNat]?).map (fun b => .int .u8 b.toNat) else none
  | _, _, _ => none
theorem sound_index {P : Program} {f : Emb} {L : Nat} (w : World) {t : TypeId} {x x' ix ix' : Value} (hx : VRel f L x x') (hi : VRel f L ix ix') {r : Value} (ha : aindex P t x ix = some r) :
    ∃ r', (Instr.index t x' ix').run P w = .ok r' w ∧ VRel f L r r' := by
  unfold aindex at ha
  split at ha
  · rename_i n elem cs k i hu
    cases hi.int_inv
    obtain ⟨ds, rfl, hc⟩ := hx.agg_inv
    split at ha
    · rename_i ie hie
      split at ha
      · rename_i hb
        obtain ⟨r', h1, h2⟩ := sound_part w hc ha
        have hsz : P.cellsOf elem = ie.size := by simp [Program.cellsOf, hie]
        refine ⟨r', ?_, h2⟩
        simp only [Instr.index, Sem.run_bind, asIntOf, Sem.run_pure, Result.andThen_ok, run_underlying hu, hb, and_self, if_true, run_sizeOf w hie, hsz, h1]
      · cases ha
    · cases ha
  · rename_i s k i hu
    cases hi.int_inv
    cases hx.string_inv
    split at ha
    · rename_i h0
      simp only [Option.map_eq_some_iff] at ha
      obtain ⟨b, hb, rfl⟩ := ha
      refine ⟨_, ?_, .int _ _⟩
      simp only [Instr.index, Sem.run_bind, asIntOf, Sem.run_pure, Result.andThen_ok, run_underlying hu, h0, if_true, hb]
    · cases ha
  · cases ha
def afieldAddr (P : Program) (t : TypeId) (x : Value) (k : Nat) : Option Value :=
  match P.underlying t, x with
  | some (.struct fields), .func (.yield 1) cs ks => match fields[k]?, fzN ks with
    | some fd, some j => match P.info? fd.type with
      | some i => if i.size = 0 then none else some (fp cs (j + fd.offset))
      | none => none
    | _, _ => none
  | some (.struct fields), .pointer (some ⟨b, o, none⟩) => match fields[k]? with
    | some fd => match P.info? fd.type with
      | some i => if i.size = 0 then none else some (.pointer (some ⟨b, o + fd.offset, none⟩))
      | none => none
    | none => none
  | _, _ => none
theorem VRel.fp_inv {f : Emb} {L : Nat} {cs ks : Array Value} {v' : Value} (h : VRel f L (.func (.yield 1) cs ks) v') : ∃ (k r o : Nat) (ds : Array Value), ks = #[.int .i64 k] ∧ v' = .pointer (some ⟨r, o + k, none⟩) ∧
    f.rom r = some ds ∧ o + cs.size ≤ ds.size ∧ (∀ i : Nat, VRel f L (cs.getD i Am.junk) (if i < cs.size then ds.getD (o + i) Am.junk else Am.junk)) ∧ ∀ i : Nat, i < cs.size → (ds.getD (o + i) Am.junk).oneCell' = true := by
  generalize hv : Value.func (.yield 1) cs ks = v at h
  cases h with
  | fp cs k r o o' ds hrom hle ho hxy hone => cases hv; subst ho; exact ⟨k, r, o, ds, rfl, rfl, hrom, hle, hxy, hone⟩
  | func fn xs ys cs ds hfn => cases hv; cases hfn
  | junk => simp [Am.junk] at hv
  | _ => cases hv
theorem VRel.fz_inv {f : Emb} {L : Nat} {cs ks : Array Value} {v' : Value} (h : VRel f L (.func (.yield 0) cs ks) v') : ∃ n : Nat, ks = #[.int .i64 n] ∧ ((∃ (r o c : Nat) (ds : Array Value), v' = .slice (some ⟨r, o, none⟩) n c ∧
    f.rom r = some ds ∧ o + cs.size ≤ ds.size ∧ n ≤ c ∧ (∀ i : Nat, VRel f L (cs.getD i Am.junk) (if i < cs.size then ds.getD (o + i) Am.junk else Am.junk)) ∧ ∀ i : Nat, i < cs.size → (ds.getD (o + i) Am.junk).oneCell' = true) ∨
    (n = 0 ∧ cs = #[] ∧ ∃ a c, v' = .slice (some a) 0 c)) := by
  generalize hv : Value.func (.yield 0) cs ks = v at h
  cases h with
  | fz cs n r o c ds hrom hle hn hxy hone => cases hv; exact ⟨n, rfl, .inl ⟨r, o, c, ds, rfl, hrom, hle, hn, hxy, hone⟩⟩
  | fz0 a c => cases hv; exact ⟨0, rfl, .inr ⟨rfl, rfl, a, c, rfl⟩⟩
  | func fn xs ys cs ds hfn => cases hv; cases hfn
  | junk => simp [Am.junk] at hv
  | _ => cases hv
theorem sound_fieldAddr {P : Program} {f : Emb} {L : Nat} (w : World) {t : TypeId} {x x' : Value} (hx : VRel f L x x') {k : Nat} {r : Value} (ha : afieldAddr P t x k = some r) :
    ∃ r', (Instr.fieldAt t x' k).run P w = .ok r' w ∧ VRel f L r r' := by
  unfold afieldAddr at ha
  split at ha
  · rename_i fields cs ks hu
    obtain ⟨k0, r0, o0, ds, rfl, rfl, hrom, hle, hxy, hone⟩ := hx.fp_inv
    rw [fzN_lit] at ha
    split at ha
    · rename_i fd j hfd hj
      cases hj
      split at ha
      · rename_i i hi
        split at ha
        · cases ha
        · rename_i hne
          simp only [Option.some.injEq] at ha
          subst ha
          have hsz : ¬ (P.cellsOf fd.type = 0) := by simpa [Program.cellsOf, hi] using hne
          refine ⟨.pointer (some ⟨r0, o0 + (k0 + fd.offset), none⟩), ?_, .fp cs _ r0 o0 _ ds hrom hle rfl hxy hone⟩
          simp only [Instr.fieldAt, Sem.run_bind, run_underlying hu, Result.andThen_ok, hfd, Instr.sureAddr, Sem.run_pure, fieldPlace, run_sizeOf w hi, hsz, if_false, addr_add, Nat.add_assoc]
      · cases ha
    · cases ha
  · rename_i fields b o hu
    obtain ⟨rfl, hb⟩ := hx.ptr_inv
    split at ha
    · rename_i fd hfd
      split at ha
      · rename_i i hi
        split at ha
        · cases ha
        · rename_i hne
          simp only [Option.some.injEq] at ha
          subst ha
          have hsz : ¬ (P.cellsOf fd.type = 0) := by simpa [Program.cellsOf, hi] using hne
          refine ⟨.pointer (some ⟨(f b).blk, (f b).off + (o + fd.offset), none⟩), ?_, .ptr b _ _ _ hb rfl rfl⟩
          simp only [Instr.fieldAt, Sem.run_bind, run_underlying hu, Result.andThen_ok, hfd, Instr.sureAddr, Sem.run_pure, fieldPlace, run_sizeOf w hi, hsz, if_false, addr_add, Nat.add_assoc]
      · cases ha
    · cases ha
  · cases ha
def aindexAddr (P : Program) (t : TypeId) (x ix : Value) : Option Value :=
  match P.underlying t, x, ix with
  | some (.array n elem), .func (.yield 1) cs ks, .int _ i => match P.info? elem, fzN ks with
    | some ie, some j => if 0 ≤ i ∧ i < n then some (fp cs (j + i.toNat * ie.size)) else none
    | _, _ => none
  | some (.slice elem), .func (.yield 0) cs ks, .int _ i => match P.info? elem, fzN ks with
    | some ie, some len => if 0 ≤ i ∧ i < len then some (fp cs (i.toNat * ie.size)) else none
    | _, _ => none
  | some (.array n elem), .pointer (some ⟨b, o, none⟩), .int _ i => match P.info? elem with
    | some ie => if 0 ≤ i ∧ i < n then some (.pointer (some ⟨b, o + i.toNat * ie.size, none⟩)) else none
    | none => none
  | some (.slice elem), .slice (some ⟨b, o, none⟩) len _, .int _ i => match P.info? elem with
    | some ie => if 0 ≤ i ∧ i < len then some (.pointer (some ⟨b, o + i.toNat * ie.size, none⟩)) else none
    | none => none
  | _, _, _ => none
theorem VRel.bnil_inv {f : Emb} {L : Nat} {xs ks : Array Value} {v' : Value} (h : VRel f L (.func (.yield 2) xs ks) v') : v' = .slice none 0 0 ∧ xs = #[] ∧ ks = #[] := by
  generalize hv : Value.func (.yield 2) xs ks = v at h
  cases h with
  | bnil => cases hv; exact ⟨rfl, rfl, rfl⟩
  | func fn xs ys cs ds hfn => cases hv; cases hfn
  | junk => simp [Am.junk] at hv
  | _ => cases hv
theorem VRel.slice_inv {f : Emb} {L : Nat} {b o l c : Nat} {v' : Value} (h : VRel f L (.slice (some ⟨b, o, none⟩) l c) v') :
    (∃ c', v' = .slice (some ⟨(f b).blk, (f b).off + o, none⟩) l c' ∧ b < L ∧ CapRel (f b) o c c') ∨ (l = 0 ∧ c = 0 ∧ ∃ a', v' = .slice (some a') 0 0 ∧ b < L) := by
  generalize hv : Value.slice (some ⟨b, o, none⟩) l c = v at h
  cases h with
  | slice b' o' l' c1 c' r o'' hb hr ho hc => cases hv; subst hr; subst ho; exact .inl ⟨c', rfl, hb, hc⟩
  | slice0 a a' hb => cases hv; exact .inr ⟨rfl, rfl, a', rfl, hb⟩
  | junk => simp [Am.junk] at hv
  | _ => cases hv
theorem sound_indexAddr {P : Program} {f : Emb} {L : Nat} (w : World) {t : TypeId} {x x' ix ix' : Value} (hx : VRel f L x x') (hi : VRel f L ix ix') {r : Value} (ha : aindexAddr P t x ix = some r) :
    ∃ r', (Instr.indexAt t x' ix').run P w = .ok r' w ∧ VRel f L r r' := by
  unfold aindexAddr at ha
  split at ha
  · rename_i n elem cs ks k i hu
    cases hi.int_inv
    obtain ⟨k0, r0, o0, ds, rfl, rfl, hrom, hle, hxy, hone⟩ := hx.fp_inv
    rw [fzN_lit] at ha
    split at ha
    · rename_i ie j hie hj
      cases hj
      split at ha
      · rename_i hbd
        simp only [Option.some.injEq] at ha
        subst ha
        have hsz : P.cellsOf elem = ie.size := by simp [Program.cellsOf, hie]
        refine ⟨.pointer (some ⟨r0, o0 + (k0 + i.toNat * ie.size), none⟩), ?_, .fp cs _ r0 o0 _ ds hrom hle rfl hxy hone⟩
        simp only [Instr.indexAt, Sem.run_bind, asIntOf, Sem.run_pure, Result.andThen_ok, run_underlying hu, Instr.sureAddr, hbd, and_self, if_true, run_sizeOf w hie, hsz, addr_add, Nat.add_assoc]
      · cases ha
    · cases ha
  · rename_i elem cs ks k i hu
    cases hi.int_inv
    obtain ⟨n0, rfl, hc⟩ := hx.fz_inv
    rw [fzN_lit] at ha
    split at ha
    · rename_i ie j hie hj
      cases hj
      split at ha
      · rename_i hbd
        simp only [Option.some.injEq] at ha
        subst ha
        rcases hc with ⟨r0, o0, c0, ds, rfl, hrom, hle, hn, hxy, hone⟩ | ⟨rfl, _⟩
        · have hsz : P.cellsOf elem = ie.size := by simp [Program.cellsOf, hie]
          refine ⟨.pointer (some ⟨r0, o0 + i.toNat * ie.size, none⟩), ?_, .fp cs _ r0 o0 _ ds hrom hle rfl hxy hone⟩
          simp only [Instr.indexAt, Sem.run_bind, asIntOf, Sem.run_pure, Result.andThen_ok, run_underlying hu, hbd, and_self, if_true, run_sizeOf w hie, hsz, addr_add, Nat.add_assoc]
        · omega
      · cases ha
    · cases ha
  · rename_i n elem b o k i hu
    cases hi.int_inv
    obtain ⟨rfl, hb⟩ := hx.ptr_inv
    split at ha
    · rename_i ie hie
      split at ha
      · rename_i hbd
        simp only [Option.some.injEq] at ha
        subst ha
        have hsz : P.cellsOf elem = ie.size := by simp [Program.cellsOf, hie]
        refine ⟨.pointer (some ⟨(f b).blk, (f b).off + (o + i.toNat * ie.size), none⟩), ?_, .ptr b _ _ _ hb rfl rfl⟩
        simp only [Instr.indexAt, Sem.run_bind, asIntOf, Sem.run_pure, Result.andThen_ok, run_underlying hu, Instr.sureAddr, hbd, and_self, if_true, run_sizeOf w hie, hsz, addr_add, Nat.add_assoc]
      · cases ha
    · cases ha
  · rename_i elem b o len cap k i hu
    cases hi.int_inv
    split at ha
    · rename_i ie hie
      split at ha
      · rename_i hbd
        simp only [Option.some.injEq] at ha
        subst ha
        rcases hx.slice_inv with ⟨c', rfl, hb, hc⟩ | ⟨rfl, rfl, a', rfl, hbL⟩
        · have hsz : P.cellsOf elem = ie.size := by simp [Program.cellsOf, hie]
          refine ⟨.pointer (some ⟨(f b).blk, (f b).off + (o + i.toNat * ie.size), none⟩), ?_, .ptr b _ _ _ hb rfl rfl⟩
          simp only [Instr.indexAt, Sem.run_bind, asIntOf, Sem.run_pure, Result.andThen_ok, run_underlying hu, hbd, and_self, if_true, run_sizeOf w hie, hsz, addr_add, Nat.add_assoc]
        · omega
      · cases ha
    · cases ha
  · cases ha
def aextract (x : Value) (k : Nat) : Option Value :=
  match x with
  | .tuple vs => vs[k]?
  | _ => none
theorem sound_extract {P : Program} {f : Emb} {L : Nat} (w : World) {x x' : Value} (hx : VRel f L x x') {k : Nat} {r : Value} (ha : aextract x k = some r) :
    ∃ r', (Instr.extract x' k).run P w = .ok r' w ∧ VRel f L r r' := by
  unfold aextract at ha
  split at ha
  · rename_i vs
    obtain ⟨ds, rfl, hr⟩ := hx.tuple_inv
    have hlt : k < vs.size := (Array.getElem?_eq_some_iff.1 ha).1
    have hlt' : k < ds.size := hr.1 ▸ hlt
    have he : vs.getD k junk = r := by have := (Array.getElem?_eq_some_iff.1 ha).2; simp [Array.getD, hlt, this]
    refine ⟨ds.getD k junk, ?_, he ▸ hr.2 k⟩
    have : ds[k]? = some (ds.getD k junk) := by simp [Array.getD, hlt']
    simp only [Instr.extract, this, Sem.run_pure]
  · cases ha
/-! ### slicing -/
def abound (v : Option Value) (d : Nat) (top : Nat) : Option Nat :=
  match v with
  | none => some d
  | some (.int _ i) => if 0 ≤ i ∧ i ≤ top then some i.toNat else none
  | _ => none
/-- low and high, in whatever they are bounded by -/
def abounds (len cap : Nat) (lo hi : Option Value) : Option (Nat × Nat) :=
  match abound hi len cap with
  | some h => match abound lo 0 h with
    | some l => some (l, h)
    | none => none
  | none => none
def OptRel (f : Emb) (L : Nat) : Option Value → Option Value → Prop
  | none, none => True
  | some v, some v' => VRel f L v v'
  | _, _ => False
theorem run_bounds {P : Program} {f : Emb} {L : Nat} (w : World) (isSl : Bool) {len cap cap' : Nat} (hcc : cap ≤ cap') (hlc : len ≤ cap') {lo hi lo' hi' : Option Value} (hl : OptRel f L lo lo') (hh : OptRel f L hi hi')
    {l h : Nat} (ha : abounds len cap lo hi = some (l, h)) : (Instr.sliceBounds isSl len cap' lo' hi' none).run P w = .ok (l, h, cap') w ∧ l ≤ h ∧ (h ≤ cap ∨ (h = len ∧ hi = none)) := by
  unfold abounds at ha
  split at ha
  · rename_i h1 hh1
    split at ha
    · rename_i l1 hl1
      simp only [Option.some.injEq, Prod.mk.injEq] at ha
      obtain ⟨rfl, rfl⟩ := ha
      have hlow : (match lo' with | some v => Instr.sliceBound v h1 (if (none : Option Value).isSome then .slice3C else .sliceB) | none => pure 0 : Sem Nat).run P w = .ok l1 w ∧ l1 ≤ h1 := by
        cases lo <;> cases lo' <;> simp only [OptRel] at hl
        · simp only [abound, Option.some.injEq] at hl1; subst hl1; exact ⟨rfl, Nat.zero_le _⟩
        · rename_i v v'
          simp only [abound] at hl1
          split at hl1
          · simp at *
          · rename_i v0 kk i he
            simp only [Option.some.injEq] at he
            subst he
            split at hl1
            · rename_i hb
              simp only [Option.some.injEq] at hl1
              subst hl1
              cases hl.int_inv
              refine ⟨?_, by omega⟩
              simp only [Instr.sliceBound, Sem.run_bind, asIntOf, Sem.run_pure, Result.andThen_ok, hb, and_self, if_true]
            · cases hl1
          · cases hl1
      have hhigh : (match hi', (none : Option Value) with
          | some v, some _ => Instr.sliceBound v cap' .slice3B
          | some v, none => Instr.sliceBound v cap' (if isSl then .sliceAcap else .sliceAlen)
          | none, none => pure len
          | none, some _ => stuck "Slice: max without high" : Sem Nat).run P w = .ok h1 w ∧ (h1 ≤ cap ∨ (h1 = len ∧ hi = none)) := by
        cases hi <;> cases hi' <;> simp only [OptRel] at hh
        · simp only [abound, Option.some.injEq] at hh1; subst hh1; exact ⟨rfl, .inr ⟨rfl, rfl⟩⟩
        · rename_i v v'
          simp only [abound] at hh1
          split at hh1
          · simp at *
          · rename_i v0 kk i he
            simp only [Option.some.injEq] at he
            subst he
            split at hh1
            · rename_i hb
              simp only [Option.some.injEq] at hh1
              subst hh1
              cases hh.int_inv
              have hb' : 0 ≤ i ∧ i ≤ (cap' : Int) := by omega
              refine ⟨?_, .inl (by omega)⟩
              simp only [Instr.sliceBound, Sem.run_bind, asIntOf, Sem.run_pure, Result.andThen_ok, hb', and_self, if_true]
            · cases hh1
          · cases hh1
      refine ⟨?_, hlow.2, hhigh.2⟩
      have e1 := hlow.1
      have e2 := hhigh.1
      simp only [Instr.sliceBounds, Sem.run_bind, Sem.run_pure, Result.andThen_ok]
      cases hi' <;> cases lo' <;> simp_all
    · cases ha
  · cases ha
/-- a slice of a slice: the row's element size is the heap's -/
def asliceS (h : AH) (size : Nat) (b o len cap : Nat) (lo hi : Option Value) : Option Value :=
  match h[b]? with
  | some (.cells _ es _) => if (es = 0 ∨ es = size) ∧ es < tagN then
      match abounds len cap lo hi with
      | some (l, hh) => if hh ≤ cap ∧ len ≤ cap then some (.slice (some ⟨b, o + l * size, none⟩) (hh - l) (cap - l)) else none
      | none => none
    else none
  | _ => none
def aslice (P : Program) (h : AH) (t : TypeId) (x : Value) (lo hi : Option Value) : Option Value :=
  match P.underlying t, x with
  | some (.slice elem), .func (.yield 0) cs ks => match P.info? elem, fzN ks with
    | some ie, some len => match abounds len len lo hi with
      | some (l, hh) => if hh * ie.size ≤ cs.size then some (fz (cs.extract (l * ie.size) (hh * ie.size)) (hh - l)) else none
      | none => none
    | _, _ => none
  | some (.array n elem), .func (.yield 1) cs ks => match P.info? elem, fzN ks with
    | some ie, some j => match abounds n n lo hi with
      | some (l, hh) => if l = n ∨ cs.size < j + hh * ie.size then none else some (fz (cs.extract (j + l * ie.size) (j + hh * ie.size)) (hh - l))
      | none => none
    | _, _ => none
  | some (.slice elem), .slice (some ⟨b, o, none⟩) len cap => match P.info? elem with
    | some ie => asliceS h ie.size b o len cap lo hi
    | none => none
  | some (.slice elem), .slice none 0 0 => match abounds 0 0 lo hi, P.info? elem with
    | some _, some _ => some (.slice none 0 0)
    | _, _ => none
  | some .string, .string s => match abounds s.size s.size lo hi with
    | some (l, hh) => some (.string (s.extract l hh))
    | none => none
  | some (.array n elem), .pointer (some ⟨b, o, none⟩) => match P.info? elem with
    | some ie => match abounds n n lo hi with
      | some (l, hh) => if l = n then none else some (.slice (some ⟨b, o + l * ie.size, none⟩) (hh - l) (n - l))
      | none => none
    | none => none
  | _, _ => none
theorem sound_slice {P : Program} {f : Emb} {h : AH} {w : World} (hs : Sim P f h w) {t : TypeId} {x x' : Value} (hx : VRel f h.length x x') {lo hi lo' hi' : Option Value} (hl : OptRel f h.length lo lo') (hh : OptRel f h.length hi hi')
    {r : Value} (ha : aslice P h t x lo hi = some r) : ∃ r', (Instr.sliceAt t x' lo' hi' none).run P w = .ok r' w ∧ VRel f h.length r r' := by
  unfold aslice at ha
  split at ha
  · rename_i elem cs ks hu
    obtain ⟨n0, rfl, hcz⟩ := hx.fz_inv
    rw [fzN_lit] at ha
    split at ha
    case h_2 => cases ha
    rename_i ie j hie hj
    cases hj
    split at ha
    case h_2 => cases ha
    rename_i l h1 hbd
    split at ha
    case isFalse => cases ha
    rename_i hle1
    simp only [Option.some.injEq] at ha
    subst ha
    have hsz : P.cellsOf elem = ie.size := by simp [Program.cellsOf, hie]
    have hrun : ∀ (base : Option Addr) (cap' : Nat), n0 ≤ cap' → (Instr.sliceAt t (.slice base n0 cap') lo' hi' none).run P w =
        .ok (.slice (if cap' = l then base else base.map (·.add (l * ie.size))) (h1 - l) (cap' - l)) w ∧ l ≤ h1 ∧ h1 ≤ n0 := by
      intro base cap' hlc
      obtain ⟨e1, e2, e3⟩ := run_bounds (P := P) w true hlc hlc hl hh hbd
      refine ⟨?_, e2, by omega⟩
      simp only [Instr.sliceAt, Instr.slice, Sem.run_bind, run_underlying hu, Result.andThen_ok, e1, run_sizeOf w hie, hsz, Sem.run_pure]
    rcases hcz with ⟨r0, o0, c0, ds, rfl, hrom, hle, hn, hxy, hone⟩ | ⟨rfl, rfl, a, c0, rfl⟩
    · obtain ⟨e1, e2, e3⟩ := hrun (some ⟨r0, o0, none⟩) c0 hn
      refine ⟨_, e1, ?_⟩
      have hlh : l * ie.size ≤ h1 * ie.size := Nat.mul_le_mul_right _ e2
      by_cases hz : c0 = l
      · have : h1 - l = 0 := by omega
        have e : h1 * ie.size = l * ie.size := by rw [show h1 = l by omega]
        rw [if_pos hz, this, e]
        have hx0 : cs.extract (l * ie.size) (l * ie.size) = #[] := by simp; omega
        rw [hx0]
        exact .fz0 _ _
      · rw [if_neg hz]
        simp only [Option.map_some, addr_add]
        refine .fz _ _ _ _ _ ds hrom (by simp; omega) (by omega) (fun i => ?_) (fun i hi => ?_)
        · by_cases hi : i < (cs.extract (l * ie.size) (h1 * ie.size)).size
          · rw [if_pos hi]
            have hi2 : l * ie.size + i < cs.size := by simp at hi; omega
            have e3 : (cs.extract (l * ie.size) (h1 * ie.size)).getD i junk = cs.getD (l * ie.size + i) junk := by
              have hi3 : i < min (h1 * ie.size) cs.size - l * ie.size := by simpa using hi
              simp [Array.getD, hi2, hi3]
            have := hxy (l * ie.size + i)
            rw [if_pos hi2] at this
            rw [e3, Nat.add_assoc]
            exact this
          · rw [getD_ge i hi]; exact .junk _
        · have hi2 : l * ie.size + i < cs.size := by simp at hi; omega
          rw [Nat.add_assoc]
          exact hone _ hi2
    · obtain ⟨e1, e2, e3⟩ := hrun (some a) c0 (Nat.zero_le _)
      refine ⟨_, e1, ?_⟩
      have h0 : l = 0 := by omega
      have h10 : h1 = 0 := by omega
      subst h0; subst h10
      have hx0 : (#[] : Array Value).extract (0 * ie.size) (0 * ie.size) = #[] := by simp
      rw [hx0]
      split
      · exact .fz0 _ _
      · exact .fz0 _ _
  · rename_i n elem cs ks hu
    obtain ⟨k0, r0, o0, ds, rfl, rfl, hrom, hle, hxy, hone⟩ := hx.fp_inv
    rw [fzN_lit] at ha
    split at ha
    case h_2 => cases ha
    rename_i ie j hie hj
    cases hj
    split at ha
    case h_2 => cases ha
    rename_i l h1 hbd
    split at ha
    case isTrue => cases ha
    rename_i hle1
    simp only [Option.some.injEq] at ha
    subst ha
    have hsz : P.cellsOf elem = ie.size := by simp [Program.cellsOf, hie]
    obtain ⟨e1, e2, e3⟩ := run_bounds (P := P) w false (Nat.le_refl n) (Nat.le_refl n) hl hh hbd
    have hnl : ¬ n = l := by omega
    refine ⟨.slice (some ⟨r0, o0 + (k0 + l * ie.size), none⟩) (h1 - l) (n - l), ?_, ?_⟩
    · simp only [Instr.sliceAt, Instr.slice, Sem.run_bind, run_underlying hu, Result.andThen_ok, e1, run_sizeOf w hie, hsz, Sem.run_pure, Instr.sureAddr, hnl, if_false, Option.map_some, addr_add, Nat.add_assoc]
    · have hlh : l * ie.size ≤ h1 * ie.size := Nat.mul_le_mul_right _ e2
      refine .fz _ _ _ _ _ ds hrom (by simp; omega) (by omega) (fun i => ?_) (fun i hi => ?_)
      · by_cases hi : i < (cs.extract (k0 + l * ie.size) (k0 + h1 * ie.size)).size
        · rw [if_pos hi]
          have hi2 : k0 + l * ie.size + i < cs.size := by simp at hi; omega
          have e3 : (cs.extract (k0 + l * ie.size) (k0 + h1 * ie.size)).getD i junk = cs.getD (k0 + l * ie.size + i) junk := by
            have hi3 : i < min (k0 + h1 * ie.size) cs.size - (k0 + l * ie.size) := by simpa using hi
            simp [Array.getD, hi2, hi3]
          have := hxy (k0 + l * ie.size + i)
          rw [if_pos hi2] at this
          have e4 : o0 + (k0 + l * ie.size) + i = o0 + (k0 + l * ie.size + i) := by omega
          rw [e3, e4]
          exact this
        · rw [getD_ge i hi]; exact .junk _
      · have hi2 : k0 + l * ie.size + i < cs.size := by simp at hi; omega
        rw [Nat.add_assoc]
        exact hone _ hi2
  · rename_i elem b o len cap hu
    split at ha
    · rename_i ie hie
      unfold asliceS at ha
      split at ha
      · rename_i c es rw hb
        split at ha
        · rename_i hes
          obtain ⟨hes, hest⟩ := hes
          split at ha
          · rename_i l h1 hbd
            split at ha
            · rename_i hcap
              simp only [Option.some.injEq] at ha
              subst ha
              have hsz : P.cellsOf elem = ie.size := by simp [Program.cellsOf, hie]
              obtain ⟨o', ho', c', elem', fr, rfl, g2, g3, g4, g5, g6, g7⟩ := hs.obj b _ hb rfl
              have hrun : ∀ (base : Option Addr) (cap' : Nat), cap ≤ cap' → len ≤ cap' → (Instr.sliceAt t (.slice base len cap') lo' hi' none).run P w =
                  .ok (.slice (if cap' = l then base else base.map (·.add (l * ie.size))) (h1 - l) (cap' - l)) w ∧ l ≤ h1 := by
                intro base cap' hc hlc
                obtain ⟨e1, e2, e3⟩ := run_bounds (P := P) w true hc hlc hl hh hbd
                refine ⟨?_, e2⟩
                simp only [Instr.sliceAt, Instr.slice, Sem.run_bind, run_underlying hu, Result.andThen_ok, e1, run_sizeOf w hie, hsz, Sem.run_pure]
              rcases hx.slice_inv with ⟨cap', rfl, hbL, hc⟩ | ⟨rfl, rfl, a', rfl, hbL⟩
              · have hcc : cap ≤ cap' := hc.le
                have hlen : len ≤ cap' := by omega
                obtain ⟨e1, e2⟩ := hrun (some ⟨(f b).blk, (f b).off + o, none⟩) cap' hcc hlen
                refine ⟨_, e1, ?_⟩
                by_cases hz : cap' = l
                · have h1l : h1 - l = 0 := by omega
                  have hcl : cap - l = 0 := by omega
                  have hcl' : cap' - l = 0 := by omega
                  rw [if_pos hz, h1l, hcl, hcl']
                  exact .slice0 _ _ hbL
                · rw [if_neg hz]
                  simp only [Option.map_some, addr_add]
                  refine .slice b _ _ _ _ _ _ hbL rfl (by omega) ?_
                  rcases hc with rfl | ⟨k1, k2, k3, k4⟩
                  · exact .inl rfl
                  · refine .inr ⟨k1, ?_, ?_, by omega⟩
                    · have hes' : szOf (f b).es = ie.size := by
                        rw [← g3, szOf_lt hest] at k1 ⊢
                        rcases hes with hes | hes <;> omega
                      rw [hes'] at k2 ⊢
                      have : (cap - l) * ie.size = cap * ie.size - l * ie.size := Nat.sub_mul ..
                      have : l * ie.size ≤ cap * ie.size := Nat.mul_le_mul_right _ (by omega)
                      omega
                    · have hes' : szOf (f b).es = ie.size := by
                        rw [← g3, szOf_lt hest] at k1 ⊢
                        rcases hes with hes | hes <;> omega
                      rw [hes'] at k3 ⊢
                      have : (cap' - l) * ie.size = cap' * ie.size - l * ie.size := Nat.sub_mul ..
                      have : l * ie.size ≤ cap' * ie.size := Nat.mul_le_mul_right _ (by omega)
                      omega
              · obtain ⟨e1, e2⟩ := hrun (some a') 0 (Nat.le_refl _) (Nat.le_refl _)
                refine ⟨_, e1, ?_⟩
                have : l = 0 := by omega
                subst this
                have : h1 = 0 := by omega
                subst this
                simp only [if_true, Nat.sub_self]
                exact .slice0 _ _ hbL
            · cases ha
          · cases ha
        · cases ha
      · cases ha
    · cases ha
  · rename_i elem hu
    split at ha
    · rename_i lh ie hbd hie
      obtain ⟨l, h1⟩ := lh
      simp only [Option.some.injEq] at ha
      subst ha
      have hx' : x' = .slice none 0 0 := plain_inv rfl hx
      subst hx'
      obtain ⟨e1, e2, e3⟩ := run_bounds (P := P) w true (Nat.le_refl 0) (Nat.le_refl 0) hl hh hbd
      have hh0 : h1 = 0 := by omega
      have hl0 : l = 0 := by omega
      subst hh0; subst hl0
      refine ⟨.slice none 0 0, ?_, .nilSlice 0 0⟩
      simp only [Instr.sliceAt, Instr.slice, Sem.run_bind, run_underlying hu, Result.andThen_ok, e1, run_sizeOf w hie, Sem.run_pure, if_true, Nat.sub_self]
    · cases ha
  · rename_i s hu
    split at ha
    · rename_i l h1 hbd
      simp only [Option.some.injEq] at ha
      subst ha
      cases hx.string_inv
      obtain ⟨e1, e2, e3⟩ := run_bounds (P := P) w false (Nat.le_refl s.size) (Nat.le_refl s.size) hl hh hbd
      refine ⟨_, ?_, .string _⟩
      simp only [Instr.sliceAt, Instr.slice, Sem.run_bind, run_underlying hu, Result.andThen_ok, e1, Option.isSome_none, Bool.false_eq_true, if_false, Sem.run_pure]
    · cases ha
  · rename_i n elem b o hu
    split at ha
    · rename_i ie hie
      split at ha
      · rename_i l h1 hbd
        split at ha
        · cases ha
        · rename_i hne
          simp only [Option.some.injEq] at ha
          subst ha
          obtain ⟨rfl, hb⟩ := hx.ptr_inv
          obtain ⟨e1, e2, e3⟩ := run_bounds (P := P) w false (Nat.le_refl n) (Nat.le_refl n) hl hh hbd
          have hsz : P.cellsOf elem = ie.size := by simp [Program.cellsOf, hie]
          refine ⟨.slice (some ⟨(f b).blk, (f b).off + o + l * ie.size, none⟩) (h1 - l) (n - l), ?_, .slice b _ _ _ _ _ _ hb rfl (by omega) (.inl rfl)⟩
          simp only [Instr.sliceAt, Sem.run_bind, run_underlying hu, Result.andThen_ok, Instr.sureAddr, Sem.run_pure, e1, run_sizeOf w hie, hsz, addr_add, if_neg (fun e => hne (Eq.symm e))]
      · cases ha
    · cases ha
  · cases ha
end Go.Am

set_option linter.unusedVariables false
set_option linter.unusedSimpArgs false
/- append, copy, make. -/
namespace Go.Am
open Go
/-- what is handed to append or copy: how many, and the cells -/
def asource (h : AH) (size : Nat) : Value → Option (Nat × Array Value)
  | .slice (some ⟨b, o, none⟩) n _ => if n = 0 then some (0, #[]) else match h[b]? with
    | some (.cells c _ _) => if o + n * size ≤ c.size then some (n, c.extract o (o + n * size)) else none
    | _ => none
  | .slice none n _ => if n = 0 then some (0, #[]) else none
  | .string s => if size = 1 then some (s.size, s.data.map fun b => .int .u8 b.toNat) else none
  | .func (.yield 0) cs ks => match fzN ks with
    | some n => if n * size ≤ cs.size then some (n, cs.extract 0 (n * size)) else none
    | none => none
  | _ => none
theorem crel_nil {f : Emb} {L : Nat} : CRel f L #[] #[] := ⟨rfl, fun i => by simp; exact ⟨.junk _, rfl⟩⟩
theorem crel_plain {f : Emb} {L : Nat} {c : Array Value} (h : c.all plain1 = true) : CRel f L c c := by
  refine ⟨rfl, fun i => ?_⟩
  by_cases hi : i < c.size
  · have := getD_all h i hi
    exact ⟨plain1_refl this, plain1_one this⟩
  · rw [getD_ge i hi]; exact ⟨.junk _, rfl⟩
theorem bytes_crel {f : Emb} {L : Nat} (s : ByteArray) : CRel f L (s.data.map fun b => Value.int .u8 b.toNat) (s.data.map fun b => Value.int .u8 b.toNat) :=
  crel_plain (by rw [Array.all_eq_true]; intro i hi; simp [plain1])
theorem run_loadCells_zero {P : Program} (w : World) (a : Addr) : (loadCells a 0).run P w = .ok #[] w := rfl
/-- the first m of them -/
theorem sound_first {P : Program} {f : Emb} {h : AH} {w : World} (hs : Sim P f h w) {size : Nat} {x x' : Value} (hx : VRel f h.length x x') {n : Nat} {cs : Array Value} (ha : asource h size x = some (n, cs)) (m : Nat) (hm : m ≤ n) :
    (Builtin.lenOf x').run P w = .ok n w ∧ ∃ ds, (Builtin.firstCells size m x').run P w = .ok ds w ∧ CRel f h.length (cs.extract 0 (m * size)) ds ∧ cs.size = n * size := by
  unfold asource at ha
  split at ha
  · rename_i b o n' cap
    split at ha
    · rename_i hz
      simp only [Option.some.injEq, Prod.mk.injEq] at ha
      obtain ⟨rfl, rfl⟩ := ha
      subst hz
      have hm0 : m = 0 := by omega
      subst hm0
      rcases hx.slice_inv with ⟨c', rfl, _, _⟩ | ⟨_, _, a', rfl, _⟩
      · exact ⟨rfl, #[], by simp [Builtin.firstCells, run_loadCells_zero], by simpa using crel_nil, by simp⟩
      · exact ⟨rfl, #[], by simp [Builtin.firstCells, run_loadCells_zero], by simpa using crel_nil, by simp⟩
    · rename_i hnz
      split at ha
      · rename_i c es rw hb
        split at ha
        · rename_i hle
          simp only [Option.some.injEq, Prod.mk.injEq] at ha
          obtain ⟨rfl, rfl⟩ := ha
          rcases hx.slice_inv with ⟨c', rfl, hbL, hc⟩ | ⟨h0, _, _, _, _⟩
          · have hmle : m * size ≤ n' * size := Nat.mul_le_mul_right _ hm
            obtain ⟨ds, h1, h2, h3, h4⟩ := hs.loadCells hb o (m * size) (by omega)
            refine ⟨rfl, ds, by simpa [Builtin.firstCells] using h1, ?_, by simp; omega⟩
            have e : (c.extract o (o + n' * size)).extract 0 (m * size) = c.extract o (o + m * size) := by
              simp only [Array.extract_extract, Nat.add_zero]
              congr 1
              omega
            rw [e]
            exact ⟨by simp; omega, fun i => ⟨h3 i, h4 i⟩⟩
          · exact absurd h0 hnz
        · cases ha
      · cases ha
  · rename_i n' cap
    split at ha
    · rename_i hz
      simp only [Option.some.injEq, Prod.mk.injEq] at ha
      obtain ⟨rfl, rfl⟩ := ha
      subst hz
      have hm0 : m = 0 := by omega
      subst hm0
      have hx' : x' = .slice none 0 cap := plain_inv rfl hx
      subst hx'
      exact ⟨rfl, #[], by simp [Builtin.firstCells], by simpa using crel_nil, by simp⟩
    · cases ha
  · rename_i s
    split at ha
    case isFalse => cases ha
    rename_i hone
    subst hone
    simp only [Option.some.injEq, Prod.mk.injEq] at ha
    obtain ⟨rfl, rfl⟩ := ha
    cases hx.string_inv
    have he : ((s.extract 0 m).data.map fun b => Value.int .u8 b.toNat) = (s.data.map fun b => Value.int .u8 b.toNat).extract 0 (m * 1) := by
      rw [Nat.mul_one, ByteArray.data_extract]
      apply Array.ext
      · simp
      · intro i h1 h2
        simp
    refine ⟨rfl, _, rfl, ?_, by rw [Array.size_map, Nat.mul_one]; rfl⟩
    rw [he]
    exact crel_plain (by
      rw [Array.all_eq_true]
      intro i hi
      simp [plain1])
  · rename_i c ks
    obtain ⟨n0, rfl, hcz⟩ := hx.fz_inv
    rw [fzN_lit] at ha
    simp only at ha
    split at ha
    case isFalse => cases ha
    rename_i hle1
    simp only [Option.some.injEq, Prod.mk.injEq] at ha
    obtain ⟨rfl, rfl⟩ := ha
    have hmle : m * size ≤ n0 * size := Nat.mul_le_mul_right _ hm
    have e : (c.extract 0 (n0 * size)).extract 0 (m * size) = c.extract 0 (m * size) := by
      simp only [Array.extract_extract, Nat.add_zero]
      congr 1
      omega
    rw [e]
    rcases hcz with ⟨r0, o0, c0, ds, rfl, hrom, hle, hn, hxy, hone⟩ | ⟨rfl, rfl, a, c0, rfl⟩
    · obtain ⟨ds1, h1, h2, h3, h4⟩ := (hs.heldRom hrom hle hxy hone).loadCells (P := P) 0 (m * size) (by omega)
      simp only [Nat.zero_add, Nat.add_zero] at h1 h3
      exact ⟨rfl, ds1, by simpa [Builtin.firstCells] using h1, ⟨by simp; omega, fun i => ⟨h3 i, h4 i⟩⟩, by simp; omega⟩
    · have hm0 : m = 0 := by omega
      subst hm0
      exact ⟨rfl, #[], by simp [Builtin.firstCells, run_loadCells_zero], by simpa using crel_nil, by simp⟩
  · cases ha
theorem extract_self (cs : Array Value) (n : Nat) (h : cs.size = n) : cs.extract 0 n = cs := by subst h; simp
theorem sound_source {P : Program} {f : Emb} {h : AH} {w : World} (hs : Sim P f h w) {size : Nat} {x x' : Value} (hx : VRel f h.length x x') {n : Nat} {cs : Array Value} (ha : asource h size x = some (n, cs)) :
    (Builtin.lenOf x').run P w = .ok n w ∧ ∃ ds, (Builtin.firstCells size n x').run P w = .ok ds w ∧ CRel f h.length cs ds ∧ cs.size = n * size := by
  obtain ⟨h1, ds, h2, h3, h4⟩ := sound_first hs hx ha n (Nat.le_refl _)
  rw [extract_self cs _ h4] at h3
  exact ⟨h1, ds, h2, h3, h4⟩
/-! ### copy -/
def acopy (P : Program) (h : AH) (dT : TypeId) (dst src : Value) : Option (Value × AH) :=
  match P.underlying dT with
  | some (.slice elem) => match P.info? elem with
    | some ie => match asource h ie.size src with
      | some (n, cs) => match dst with
          | .slice (some ⟨b, o, none⟩) dLen _ =>
            if min n dLen * ie.size = 0 then some (.int .i64 (min n dLen : Nat), h) else match h[b]? with
            | some (.cells c es true) => if o + min n dLen * ie.size ≤ c.size then some (.int .i64 (min n dLen : Nat), h.set b (.cells (blit c o (cs.extract 0 (min n dLen * ie.size)).toList) es true)) else none
            | _ => none
          | .slice none 0 _ => some (.int .i64 0, h)
          | _ => none
      | none => none
    | none => none
  | _ => none
theorem sound_copy {P : Program} {f : Emb} {h : AH} {w : World} (hs : Sim P f h w) {ts : Array TypeId} {dT ty : TypeId} (hts : ts[0]? = some dT) {dst dst' src src' : Value} (hd : VRel f h.length dst dst') (hx : VRel f h.length src src')
    {r : Value} {h1 : AH} (ha : acopy P h dT dst src = some (r, h1)) :
    ∃ r' w1, (Builtin.copy_ ts ty #[dst', src']).run P w = .ok r' w1 ∧ Step P f h w f h1 w1 ∧ VRel f h1.length r r' := by
  unfold acopy at ha
  split at ha
  · rename_i elem hu
    split at ha
    · rename_i ie hie
      have hsz : P.cellsOf elem = ie.size := by simp [Program.cellsOf, hie]
      split at ha
      · rename_i n cs hsrc
        split at ha
        · rename_i b o dLen dCap
          obtain ⟨l1, ds, l2, l3, l4⟩ := sound_first hs hx hsrc (min n dLen) (Nat.min_le_left _ _)
          split at ha
          · rename_i hzero
            simp only [Option.some.injEq, Prod.mk.injEq] at ha
            obtain ⟨rfl, rfl⟩ := ha
            have hds : ds = #[] := by
              have := l3.1
              rw [hzero] at this
              exact Array.eq_empty_of_size_eq_zero (by simp at this; omega)
            subst hds
            have key : ∀ (a' : Addr) (c' : Nat), (Builtin.copy_ ts ty #[.slice (some a') dLen c', src']).run P w = .ok (.int .i64 (min n dLen : Nat)) w := by
              intro a' c'
              have e1 : Nat.min n dLen = min n dLen := rfl
              simp only [Builtin.copy_, hts, List.getElem?_toArray, List.getElem?_cons_zero, List.getElem?_cons_succ, Sem.run_bind, run_underlying hu, Result.andThen_ok, l1, run_sizeOf w hie, hsz, e1, l2, storeCells, Sem.run_pure, goInt]
            rcases hd.slice_inv with ⟨c', rfl, _, _⟩ | ⟨h0, _, a', rfl, _⟩
            · exact ⟨_, w, key _ c', Step.refl hs, .int _ _⟩
            · subst h0; exact ⟨_, w, key a' 0, Step.refl hs, .int _ _⟩
          · rename_i hnz
            split at ha
            · rename_i c es hb
              split at ha
              · rename_i hle
                simp only [Option.some.injEq, Prod.mk.injEq] at ha
                obtain ⟨rfl, rfl⟩ := ha
                rcases hd.slice_inv with ⟨c', rfl, _, _⟩ | ⟨h0, _, a', rfl, _⟩
                · have hc := l3.list
                  have hlen : (cs.extract 0 (min n dLen * ie.size)).toList.length = min n dLen * ie.size := by
                    have : min n dLen * ie.size ≤ n * ie.size := Nat.mul_le_mul_right _ (Nat.min_le_left _ _)
                    simp; omega
                  obtain ⟨w1, k1, k2⟩ := sound_storeCells hs hb (o := o) (vs := (cs.extract 0 (min n dLen * ie.size)).toList) (vs' := ds.toList) hc.1 (by rw [hlen]; exact hle) hc.2
                  refine ⟨.int .i64 (min n dLen : Nat), w1, ?_, k2, .int _ _⟩
                  have e1 : Nat.min n dLen = min n dLen := rfl
                  simp only [Builtin.copy_, hts, List.getElem?_toArray, List.getElem?_cons_zero, List.getElem?_cons_succ, Sem.run_bind, run_underlying hu, Result.andThen_ok, l1, run_sizeOf w hie, hsz, e1, l2, k1, Sem.run_pure, goInt]
                · exfalso; subst h0; simp at hnz
              · cases ha
            · cases ha
        · rename_i dCap
          simp only [Option.some.injEq, Prod.mk.injEq] at ha
          obtain ⟨rfl, rfl⟩ := ha
          have hd' : dst' = .slice none 0 dCap := plain_inv rfl hd
          subst hd'
          obtain ⟨l1, ds, l2, l3, l4⟩ := sound_first hs hx hsrc 0 (Nat.zero_le _)
          refine ⟨.int .i64 0, w, ?_, Step.refl hs, .int _ _⟩
          have e1 : Nat.min n 0 = 0 := Nat.min_zero n
          simp only [Builtin.copy_, hts, List.getElem?_toArray, List.getElem?_cons_zero, List.getElem?_cons_succ, Sem.run_bind, run_underlying hu, Result.andThen_ok, l1, run_sizeOf w hie, hsz, e1, l2, Sem.run_pure, goInt]
          rfl
        · cases ha
      · cases ha
    · cases ha
  · cases ha
/-! ### make -/
def amakeSlice (P : Program) (h : AH) (t : TypeId) (l c : Value) : Option (Value × AH) :=
  match P.underlying t, l, c with
  | some (.slice elem), .int .i64 len, .int .i64 cap => match zeroCellsOf P elem, P.info? elem with
    | some zc, some ie => if 0 ≤ len ∧ len ≤ cap ∧ cap < 2 ^ 62 ∧ ie.bytes * cap ≤ 2 ^ 48 then
        some (.slice (some ⟨h.length, 0, none⟩) len.toNat cap.toNat, h ++ [.cells (zeros zc (cap.toNat * zc.size)) zc.size true]) else none
    | _, _ => none
  | _, _, _ => none
theorem wrap_i64 {n : Int} (h0 : 0 ≤ n) (h1 : n < 2 ^ 62) : IntKind.i64.wrap n = n := by
  have h2 : (2 : Int) ^ 62 = 4611686018427387904 := by decide
  rw [h2] at h1
  exact IntWalk.i64_in n (by omega)
theorem sound_makeSlice {P : Program} {f : Emb} {h : AH} {w : World} (hs : Sim P f h w) (t : TypeId) {l l' c c' : Value} (hl : VRel f h.length l l') (hc : VRel f h.length c c')
    {r : Value} {h1 : AH} (ha : amakeSlice P h t l c = some (r, h1)) :
    ∃ f1 r' w1, (Instr.makeSlice t l' c').run P w = .ok r' w1 ∧ Step P f h w f1 h1 w1 ∧ VRel f1 h1.length r r' := by
  unfold amakeSlice at ha
  split at ha
  · rename_i elem len cap hu
    cases hl.int_inv
    cases hc.int_inv
    split at ha
    · rename_i zc ie hzc hie
      obtain ⟨i, z, hi, hz, hzc', hall, hsz, hpos⟩ := zeroCellsOf_spec hzc
      have hii : i = ie := by rw [hi] at hie; exact Option.some.inj hie
      subst hii
      split at ha
      · rename_i hcond
        obtain ⟨c1, c2, c3, c4⟩ := hcond
        simp only [Option.some.injEq, Prod.mk.injEq] at ha
        obtain ⟨rfl, rfl⟩ := ha
        have hcs : P.cellsOf elem = zc.size := by simp [Program.cellsOf, hi, hsz]
        have hcr := zeros_crel (f := f) (L := h.length) hall (by omega) (cap.toNat * zc.size)
        have hst := Step.alloc hs (.cells (zeros zc (cap.toNat * zc.size)) zc.size true) (.cells (zeros zc (cap.toNat * zc.size)) elem) ⟨w.heap.size, 0, (zeros zc (cap.toNat * zc.size)).size, (zeros zc (cap.toNat * zc.size)).size, zc.size⟩ rfl (cells_orel hcr.1 hcr.2 true (fun h => absurd h (by have := (zeroCellsOf_tag hzc).1; omega)))
        refine ⟨_, .slice (some ⟨w.heap.size, 0, none⟩) len.toNat cap.toNat, _, ?_, hst, ?_⟩
        · have w1 : IntKind.i64.wrap len = len := wrap_i64 c1 (by omega)
          have w2 : IntKind.i64.wrap cap = cap := wrap_i64 (by omega) c3
          have b2 : (decide (cap < 0) || decide ((i.bytes : Int) * cap > 2 ^ 48) || decide (len < 0) || decide (len > cap)) = false := by
            simp only [Bool.or_eq_false_iff, decide_eq_false_iff_not]
            omega
          simp only [Instr.makeSlice, Sem.run_bind, run_underlying hu, Result.andThen_ok, asInt, asIntOf, Sem.run_pure, run_typeInfo w hi, w1, w2, b2, Bool.false_eq_true, if_false, run_askRoom, run_sizeOf w hi, hcs]
          by_cases h0 : cap.toNat * zc.size = 0
          · have e0 : (Array.range 0).map (fun x => (#[] : Array Value)[x % (#[] : Array Value).size]!) = zeros zc 0 := by simp [zeros]
            simp only [Sem.run_bind, Sem.run_pure, Result.andThen_ok, Sem.run_ite, h0, if_true, newRow, run_newObj, e0]
            rfl
          · have e1 : (Array.range (cap.toNat * zc.size)).map (fun x => zc[x % zc.size]!) = zeros zc (cap.toNat * zc.size) := rfl
            simp only [Sem.run_bind, Sem.run_pure, Result.andThen_ok, Sem.run_ite, h0, if_false, run_zeroValue hi hz, hzc', newRow, run_newObj, e1]
            rfl
        · have := new_slice (f1 := upd f h.length ⟨w.heap.size, 0, (zeros zc (cap.toNat * zc.size)).size, (zeros zc (cap.toNat * zc.size)).size, zc.size⟩) (L := h.length) (upd_eq _ _ _) rfl len.toNat cap.toNat cap.toNat (.inl rfl)
          simpa using this
      · cases ha
    · cases ha
  · cases ha
/-! ### append -/
theorem growBy_le (n : Nat) : ∀ (r c : Nat), c ≤ 2 * n + 192 → Builtin.growBy n r c ≤ 2 * n + 192
  | 0, c, h => by simpa [Builtin.growBy] using h
  | r + 1, c, h => by
    unfold Builtin.growBy
    split
    · exact h
    · exact growBy_le n r _ (by omega)
theorem nextslicecap_le (need c : Nat) (h : c < need) : Builtin.nextslicecap need c ≤ 2 * need + 192 := by
  unfold Builtin.nextslicecap
  split
  · omega
  · split
    · omega
    · exact growBy_le need 4 c (by omega)
/-- what is appended: a slice, a string, or so many zeros -/
def aappended (P : Program) (h : AH) (elem xT : TypeId) (size : Nat) (x : Value) : Option (Nat × Array Value) :=
  match P.underlying xT with
  | some (.int _) => match x, zeroCellsOf P elem, P.info? elem with
    | .int .i64 n, some zc, some ie => if 0 ≤ n ∧ n < 2 ^ 62 ∧ n * ie.bytes ≤ 2 ^ 48 then some (n.toNat, zeros zc (n.toNat * zc.size)) else none
    | _, _, _ => none
  | some _ => asource h size x
  | none => none
/-- a row that bears its cells' size, or its kind where that is 1 -/
def appFits (es size elem o : Nat) : Prop := (es = size ∧ es < tagN) ∨ (es = tagN + elem ∧ size = 1 ∧ o = 0)
instance {es size elem o : Nat} : Decidable (appFits es size elem o) := by unfold appFits; infer_instance
theorem appFits.szOf {es size elem o : Nat} (h : appFits es size elem o) : szOf es = size := by
  rcases h with ⟨h, k⟩ | ⟨rfl, h, _⟩
  · rw [szOf_lt k, h]
  · rw [szOf_tag, h]
theorem appFits.tag {es size elem o : Nat} (h : appFits es size elem o) : tagN ≤ es → es = tagN + elem ∧ o = 0 := by
  rcases h with ⟨h, k⟩ | ⟨h, _, k⟩
  · intro h2; omega
  · exact fun _ => ⟨h, k⟩
def aappend (P : Program) (h : AH) (sT xT : TypeId) (s x : Value) : Option (Value × AH) :=
  match P.underlying sT with
  | some (.slice elem) => match P.info? elem, zeroCellsOf P elem with
    | some ie, some zc => match aappended P h elem xT ie.size x with
      | some (n, new) => match s with
        | .slice none 0 0 => if n = 0 then some (.slice none 0 0, h) else
            if (2 * n + 192) * ie.bytes ≤ 2 ^ 48 ∧ n < 2 ^ 62 then some (.slice (some ⟨h.length, 0, none⟩) n n, h ++ [.cells new ie.size true]) else none
        | .func (.yield 2) xs ks => if xs.size = 0 ∧ ks.size = 0 ∧ ie.size = 1 then
            if n = 0 then some (bnil, h) else
            if (2 * n + 192) * ie.bytes ≤ 2 ^ 48 ∧ n < 2 ^ 62 then some (.slice (some ⟨h.length, 0, none⟩) n n, h ++ [.cells new (tagN + elem) true]) else none
            else none
        | .slice (some ⟨b, o, none⟩) len cap =>
            if n = 0 ∧ len ≤ cap then some (.slice (some ⟨b, o, none⟩) len cap, h) else
            match h[b]? with
            | some (.cells c es true) =>
              if o + len * ie.size ≤ c.size ∧ appFits es ie.size elem o then
                if len + n ≤ cap then
                  if o + (len + n) * ie.size ≤ c.size then some (.slice (some ⟨b, o, none⟩) (len + n) cap, h.set b (.cells (blit c (o + len * ie.size) new.toList) es true)) else none
                else if (2 * (len + n) + 192) * ie.bytes ≤ 2 ^ 48 ∧ len + n < 2 ^ 62 then
                  some (.slice (some ⟨h.length, 0, none⟩) (len + n) (len + n), h.set b .dead ++ [.cells (c.extract o (o + len * ie.size) ++ new) es true]) else none
              else none
            | _ => none
        | _ => none
      | none => none
    | _, _ => none
  | _ => none
end Go.Am

set_option linter.unusedVariables false
set_option linter.unusedSimpArgs false
/- append, proved. -/
namespace Go.Am
open Go
theorem rw_alive {o : AObj} (h : o.rw = true) : o.alive = true := by cases o <;> simp_all [AObj.rw, AObj.alive]
/-- A block is given up; what it was goes on axs another one (perhaps written, perhaps longer), in the same place of the world. -/
theorem Step.move {P : Program} {f : Emb} {h : AH} {w : World} (hs : Sim P f h w) {b : Nat} {o o1 : AObj} (hb : h[b]? = some o) (ho : o.rw = true)
    {w1 : World} {o1' : Obj} (I : Img) (hI : I.blk = (f b).blk) (hok : o1.ok P) (hw : w1.heap[(f b).blk]? = some o1') (hr : ORel f h.length I o1 o1') (hother : ∀ r, r ≠ (f b).blk → w1.heap[r]? = w.heap[r]?)
    (hos : w1.os = w.os) (htape : w1.tape = w.tape) (hout : w1.output = w.output) (hsize : w1.heap.size = w.heap.size) (hdr : w1.drawn = w.drawn) :
    Step P f h w (upd f h.length I) (h.set b .dead ++ [o1]) w1 := by
  have hlt : b < h.length := (List.getElem?_eq_some_iff.1 hb).1
  have hag : ∀ b, b < h.length → upd f h.length I b = f b := fun b hb => upd_lt _ _ _ _ hb
  have hagr := upd_agree f h.length I
  have hcase : ∀ (b' : Nat) (x : AObj), (h.set b .dead ++ [o1])[b']? = some x → x.alive = true → (b' < h.length ∧ b' ≠ b ∧ h[b']? = some x) ∨ (b' = h.length ∧ x = o1) := by
    intro b' x hx ha
    by_cases hl : b' < h.length
    · rw [List.getElem?_append_left (by simpa using hl)] at hx
      by_cases he : b = b'
      · subst he
        rw [List.getElem?_set_self hlt] at hx
        cases hx
        simp [AObj.alive] at ha
      · rw [List.getElem?_set_ne he] at hx
        exact .inl ⟨hl, fun e => he e.symm, hx⟩
    · rw [List.getElem?_append_right (by simpa using hl)] at hx
      simp only [List.length_set] at hx
      by_cases he : b' = h.length
      · subst he; simp at hx; exact .inr ⟨rfl, hx.symm⟩
      · exfalso
        obtain ⟨k, hk⟩ := Nat.exists_eq_succ_of_ne_zero (show b' - h.length ≠ 0 by omega)
        rw [hk] at hx
        simp at hx
  have hlen : (h.set b .dead ++ [o1]).length = h.length + 1 := by simp
  refine ⟨⟨?_, ?_, ?_, ?_, ?_, hs.laid, fun b' x hb => by
    by_cases ha : x.alive = true
    · exact (hcase b' x hb ha).elim (fun ⟨_, _, h1⟩ => hs.ok b' x h1) (fun ⟨_, e⟩ => e ▸ hok)
    · cases x <;> first | exact trivial | (exfalso; exact ha rfl)⟩, hagr, by omega, ⟨hos, htape, hout, by omega, fun r hr' hno => hother r (fun e => hno b o hb ho e.symm), Nat.le_of_eq hdr.symm⟩, ?_⟩
  · intro b' x hx ha
    rcases hcase b' x hx ha with ⟨hl, hne, hx'⟩ | ⟨rfl, rfl⟩
    · obtain ⟨y, hy, hyr⟩ := hs.obj b' x hx' ha
      have : (f b).blk ≠ (f b').blk := hs.sep b b' o x hb hx' (rw_alive ho) ha ho (fun e => hne e.symm)
      rw [hag b' hl]
      exact ⟨y, by rw [hother _ (fun e => this e.symm)]; exact hy, hyr.mono (by omega) hagr⟩
    · rw [upd_eq]
      exact ⟨o1', by rw [hI]; exact hw, hr.mono (by omega) hagr⟩
  · intro b1 b2 x1 x2 h1 h2 ha1 ha2 hrw hne
    rcases hcase b1 x1 h1 ha1 with ⟨hl1, hn1, h1'⟩ | ⟨rfl, rfl⟩ <;> rcases hcase b2 x2 h2 ha2 with ⟨hl2, hn2, h2'⟩ | ⟨rfl, rfl⟩
    · rw [hag b1 hl1, hag b2 hl2]; exact hs.sep b1 b2 x1 x2 h1' h2' ha1 ha2 hrw hne
    · rw [hag b1 hl1, upd_eq, hI]
      exact fun e => hs.sep b b1 o x1 hb h1' (rw_alive ho) ha1 ho (fun e => hn1 e.symm) e.symm
    · rw [hag b2 hl2, upd_eq, hI]
      exact hs.sep b b2 o x2 hb h2' (rw_alive ho) ha2 ho (fun e => hn2 e.symm)
    · exact absurd rfl hne
  · intro g hg
    rw [hag g (Nat.lt_of_lt_of_le hg hs.size)]
    exact hs.glob g hg
  · have := hs.size
    omega
  · intro r ds hr
    obtain ⟨⟨elem, fr, k1⟩, k2⟩ := hs.rom r ds hr
    refine ⟨⟨elem, fr, by rw [hother r (k2 b o hb ho).symm]; exact k1⟩, fun b' x hx hrw => ?_⟩
    rcases hcase b' x hx (rw_alive hrw) with ⟨hl, hne, hx'⟩ | ⟨rfl, rfl⟩
    · rw [hag b' hl]; exact k2 b' x hx' hrw
    · rw [upd_eq, hI]; exact k2 b o hb ho
  · intro b1 x1 h1 hrw
    rcases hcase b1 x1 h1 (rw_alive hrw) with ⟨hl, hn, h1'⟩ | ⟨rfl, rfl⟩
    · exact .inr ⟨b1, x1, h1', hrw, by rw [hag b1 hl]⟩
    · exact .inr ⟨b, o, hb, ho, by rw [upd_eq, hI]⟩
theorem Step.kill {P : Program} {f : Emb} {h : AH} {w : World} (hs : Sim P f h w) (b : Nat) : Step P f h w f (h.set b .dead) w := by
  have hcase : ∀ (b' : Nat) (x : AObj), (h.set b .dead)[b']? = some x → x.alive = true → h[b']? = some x := by
    intro b' x hx ha
    by_cases he : b = b'
    · subst he
      by_cases hl : b < h.length
      · rw [List.getElem?_set_self hl] at hx
        cases hx
        simp [AObj.alive] at ha
      · rw [List.getElem?_eq_none (by simpa using hl)] at hx
        cases hx
    · rwa [List.getElem?_set_ne he] at hx
  refine ⟨⟨fun b' x hx ha => by simpa using hs.obj b' x (hcase b' x hx ha) ha, fun b1 b2 x1 x2 h1 h2 ha1 ha2 => hs.sep b1 b2 x1 x2 (hcase _ _ h1 ha1) (hcase _ _ h2 ha2) ha1 ha2, hs.glob, by simpa using hs.size,
    fun r ds hr => ⟨(hs.rom r ds hr).1, fun b' x hx hrw => (hs.rom r ds hr).2 b' x (hcase b' x hx (rw_alive hrw)) hrw⟩, hs.laid, fun b' x hx => by
      by_cases ha : x.alive = true
      · exact hs.ok b' x (hcase b' x hx ha)
      · cases x <;> first | exact trivial | (exfalso; exact ha rfl)⟩, .refl _ _, by simp, Keep.refl _ _ _, fun b1 x1 h1 hrw => .inr ⟨b1, x1, hcase b1 x1 h1 (rw_alive hrw), hrw, rfl⟩⟩
theorem Step.drew {P : Program} {f : Emb} {h : AH} {w : World} (hs : Sim P f h w) : Step P f h w f h w.drew :=
  ⟨hs.congr rfl, .refl _ _, Nat.le_refl _, ⟨rfl, rfl, rfl, Nat.le_refl _, fun _ _ _ => rfl, Nat.le_succ _⟩, fun b o hb ho => .inr ⟨b, o, hb, ho, rfl⟩⟩
theorem getD_blit (vs : List Value) : ∀ (c : Array Value) (o i : Nat), (blit c o vs).getD i junk = if o ≤ i ∧ i < o + vs.length ∧ i < c.size then vs.getD (i - o) junk else c.getD i junk := by
  induction vs with
  | nil => intro c o i; simp only [blit, List.length_nil, Nat.add_zero]; rw [if_neg (by omega)]
  | cons v r ih =>
    intro c o i
    simp only [blit, ih, Array.size_setIfInBounds, List.length_cons]
    by_cases h1 : o + 1 ≤ i ∧ i < o + 1 + r.length ∧ i < c.size
    · rw [if_pos h1, if_pos (by omega)]
      obtain ⟨k, hk⟩ : ∃ k, i - o = k + 1 := ⟨i - o - 1, by omega⟩
      rw [hk]
      have : i - (o + 1) = k := by omega
      rw [this]
      simp
    · rw [if_neg h1]
      by_cases h2 : o ≤ i ∧ i < o + (r.length + 1) ∧ i < c.size
      · rw [if_pos h2]
        have : i = o := by omega
        subst this
        simp [Array.getD, h2.2.2]
      · rw [if_neg h2]
        simp only [Array.getD_eq_getD_getElem?]
        by_cases he : o = i
        · subst he
          have : ¬ o < c.size := by omega
          simp [this]
        · rw [Array.getElem?_setIfInBounds_ne he]
/-- a store into a block of the world -/
theorem run_storeAt {P : Program} {w : World} {r o : Nat} {c : Array Value} {t : TypeId} {fr : Nat × Nat} (hw : w.heap[r]? = some (.cells c t fr)) (hfr : ∀ i : Nat, i < c.size → (fr.1 ≤ i && i < fr.2) = false) (vs : List Value)
    (hle : o + vs.length ≤ c.size) (h1 : ∀ i : Nat, (vs.getD i junk).oneCell' = true) :
    ∃ w1, (storeCells ⟨r, o, none⟩ vs).run P w = .ok () w1 ∧ w1.heap[r]? = some (.cells (blit c o vs) t fr) ∧ (∀ r', r' ≠ r → w1.heap[r']? = w.heap[r']?) ∧
      w1.os = w.os ∧ w1.tape = w.tape ∧ w1.output = w.output ∧ w1.heap.size = w.heap.size ∧ w1.drawn = w.drawn := by
  have hrun := run_storeCells_cells (P := P) r o vs 0 w
    (fun j hj => by rw [cell_of_block hw]; simp; omega)
    (fun j hj => by
      simp only [World.frozen?, hw]
      exact hfr _ (by omega))
    (fun v hv' => by
      obtain ⟨i, hi⟩ := List.mem_iff_getElem?.1 hv'
      have := h1 i
      simpa [List.getD, hi] using this)
  exact ⟨_, hrun, setCells_heap vs hw o⟩
theorem zeroCells_eq (z : Array Value) (n : Nat) : Builtin.zeroCells z n = zeros z (n * z.size) := rfl
def isIntD (d : TypeDesc) : Bool := d matches .int _
/-- what is appended, in the world: so many zeros, or cells that are there -/
def Appended (P : Program) (w : World) (elem : TypeId) (ie : TypeInfo) (zc : Array Value) (d : TypeDesc) (x : Value) (n : Nat) (ds : Array Value) : Prop :=
  (∃ k n0, d = .int k ∧ x = .int .i64 n0 ∧ 0 ≤ n0 ∧ n0 < 2 ^ 62 ∧ n0 * (ie.bytes : Int) ≤ 2 ^ 48 ∧ n = n0.toNat ∧ ds = zeros zc (n * zc.size)) ∨
  (isIntD d = false ∧ (Builtin.lenOf x).run P w = .ok n w ∧ (Builtin.firstCells ie.size n x).run P w = .ok ds w)
theorem sound_appended {P : Program} {f : Emb} {h : AH} {w : World} (hs : Sim P f h w) {elem xT : TypeId} {ie : TypeInfo} {zc : Array Value} (hie : P.info? elem = some ie) (hzc : zeroCellsOf P elem = some zc) {x x' : Value} (hx : VRel f h.length x x')
    {n : Nat} {cs : Array Value} (ha : aappended P h elem xT ie.size x = some (n, cs)) :
    ∃ d, P.underlying xT = some d ∧ ∃ ds, Appended P w elem ie zc d x' n ds ∧ CRel f h.length cs ds ∧ cs.size = n * ie.size := by
  obtain ⟨i, z, hi, hz, hzc', hall, hsz, hpos⟩ := zeroCellsOf_spec hzc
  have hii : i = ie := by rw [hi] at hie; exact Option.some.inj hie
  subst hii
  unfold aappended at ha
  split at ha
  · rename_i k hu
    refine ⟨_, hu, ?_⟩
    split at ha
    · rename_i n0 zc' ie' hzc2 hie2
      rw [hzc] at hzc2
      cases hzc2
      rw [hie] at hie2
      cases hie2
      split at ha
      · rename_i hc
        obtain ⟨c1, c2, c3⟩ := hc
        simp only [Option.some.injEq, Prod.mk.injEq] at ha
        obtain ⟨rfl, rfl⟩ := ha
        cases hx.int_inv
        exact ⟨_, .inl ⟨k, n0, rfl, rfl, c1, c2, c3, rfl, rfl⟩, zeros_crel hall (by omega) _, by rw [size_zeros, hsz]⟩
      · cases ha
    · cases ha
  · rename_i d hni hu
    refine ⟨d, hu, ?_⟩
    have hd : isIntD d = false := by
      cases d <;> first | rfl | (exfalso; exact hni _ rfl)
    obtain ⟨h1, ds, h2, h3, h4⟩ := sound_source hs hx ha
    exact ⟨ds, .inr ⟨hd, h1, h2⟩, h3, h4⟩
  · cases ha
set_option maxRecDepth 4000 in
/-- there is room: what is appended is stored behind what is there -/
theorem append_room {P : Program} (w : World) {ts : Array TypeId} {sT xT ty elem : TypeId} (h0 : ts[0]? = some sT) (h1 : ts[1]? = some xT) (hu : P.underlying sT = some (.slice elem)) {d : TypeDesc} (hd : P.underlying xT = some d)
    {ie : TypeInfo} (hie : P.info? elem = some ie) {z : Value} (hz : ie.zero = some z) (hzs : z.cells.size = ie.size) (base : Option Addr) (len cap : Nat) (x : Value) {n : Nat} {ds : Array Value}
    (hap : Appended P w elem ie z.cells d x n ds) (hcap : len + n ≤ cap) :
    (Builtin.append_ ts ty #[.slice base len cap, x]).run P w = (match base with
      | some a => (storeCells (a.add (len * ie.size)) ds.toList).run P w
      | none => .ok () w).andThen fun _ w' => .ok (.slice base (len + n) cap) w' := by
  have hsz : P.cellsOf elem = ie.size := by simp [Program.cellsOf, hie]
  have hz0 := run_zeroValue hie hz w
  rcases hap with ⟨k, n0, rfl, rfl, c1, c2, c3, rfl, rfl⟩ | ⟨hb, hn, hds⟩
  · have e1 : IntKind.i64.wrap n0 = n0 := wrap_i64 c1 c2
    have e2 : ¬ n0 < 0 := by omega
    have e3 : ¬ (n0 * (ie.bytes : Int) > 2 ^ 48) := by omega
    by_cases h00 : n0.toNat * ie.size = 0
    · have hnil : zeros z.cells (n0.toNat * z.cells.size) = #[] := by rw [hzs, h00]; simp [zeros]
      rw [hnil]
      simp only [Builtin.append_, h0, h1, List.getElem?_toArray, List.getElem?_cons_zero, List.getElem?_cons_succ, Sem.run_bind, run_underlying hu, run_underlying hd, Result.andThen_ok, run_sizeOf w hie, hsz, Sem.run_pure, if_true,
        asInt, asIntOf, e1, e2, if_false, run_typeInfo w hie, e3, hcap, h00, Bool.not_true, Bool.false_eq_true]
      cases base <;> simp only [Sem.run_bind, Sem.run_pure, Result.andThen_ok]
    · simp only [Builtin.append_, h0, h1, List.getElem?_toArray, List.getElem?_cons_zero, List.getElem?_cons_succ, Sem.run_bind, run_underlying hu, run_underlying hd, Result.andThen_ok, run_sizeOf w hie, hsz, Sem.run_pure, if_true,
        asInt, asIntOf, e1, e2, if_false, run_typeInfo w hie, e3, hcap, h00, Bool.not_true, Bool.false_eq_true, hz0, zeroCells_eq]
      cases base <;> simp only [Sem.run_bind, Sem.run_pure, Result.andThen_ok]
  · cases d <;> first
      | (cases hb; done)
      | (simp only [Builtin.append_, h0, h1, List.getElem?_toArray, List.getElem?_cons_zero, List.getElem?_cons_succ, Sem.run_bind, run_underlying hu, run_underlying hd, Result.andThen_ok, run_sizeOf w hie, hsz, Sem.run_pure, Bool.false_eq_true, if_false, hn, hcap, if_true, Bool.not_false, hds]
         cases base <;> simp only [Sem.run_bind, Sem.run_pure, Result.andThen_ok])
set_option maxRecDepth 4000 in
/-- there is none: all is copied -/
theorem append_grow {P : Program} (w : World) {ts : Array TypeId} {sT xT ty elem : TypeId} (h0 : ts[0]? = some sT) (h1 : ts[1]? = some xT) (hu : P.underlying sT = some (.slice elem)) {d : TypeDesc} (hd : P.underlying xT = some d)
    {ie : TypeInfo} (hie : P.info? elem = some ie) {z : Value} (hz : ie.zero = some z) (hzs : z.cells.size = ie.size) (base : Option Addr) (len cap : Nat) (x : Value) {n : Nat} {ds old : Array Value}
    {ds0 : Array Value} (hap : Appended P w elem ie z.cells d x n ds0) (hap2 : Appended P w.drew elem ie z.cells d x n ds) (hcap : cap < len + n) (hb1 : (2 * (len + n) + 192) * ie.bytes ≤ 2 ^ 48) (hb2 : len + n < 2 ^ 62)
    (hold : (Builtin.firstCells ie.size len (.slice base len cap)).run P w.drew = .ok old w.drew) :
    ∃ newCap, len + n ≤ newCap ∧ (Builtin.append_ ts ty #[.slice base len cap, x]).run P w =
      .ok (.slice (some ⟨w.heap.size, 0, none⟩) (len + n) newCap) (w.drew.alloc (.cells (old ++ ds ++ zeros z.cells ((newCap - (len + n)) * z.cells.size)) elem)) := by
  have hsz : P.cellsOf elem = ie.size := by simp [Program.cellsOf, hie]
  have hzw := fun w' => run_zeroValue (P := P) hie hz w'
  have hnc : ¬ (len + n ≤ cap) := by omega
  have hn1 : ¬ (((len + n : Nat) : Int) > IntKind.i64.max) := by
    have : IntKind.i64.max = 9223372036854775807 := by decide
    rw [this]; omega
  have hn2 : ¬ (Builtin.nextslicecap (len + n) cap * ie.bytes > 2 ^ 48) := by
    have h1 := nextslicecap_le (len + n) cap hcap
    have h2 : Builtin.nextslicecap (len + n) cap * ie.bytes ≤ (2 * (len + n) + 192) * ie.bytes := Nat.mul_le_mul_right _ h1
    omega
  refine ⟨(Question.appendCap (len + n) cap elem).cut (w.tape w.drawn (.appendCap (len + n) cap elem)), ?_, ?_⟩
  · simp [Question.cut]
  have hch : ∀ w', (choose (.appendCap (len + n) cap elem)).run P w' = .ok ((Question.appendCap (len + n) cap elem).cut (w'.tape w'.drawn (.appendCap (len + n) cap elem))) w'.drew := by
    intro w'; rw [run_choose]; simp [Question.forced]
  rcases hap with ⟨k, n0, rfl, rfl, c1, c2, c3, rfl, rfl⟩ | ⟨hb, hn, hds⟩
  · have hds3 : ds = zeros z.cells (n0.toNat * z.cells.size) := by
      rcases hap2 with ⟨_, _, _, _, _, _, _, _, h9⟩ | ⟨h1, _⟩
      · exact h9
      · cases h1
    subst hds3
    have e1 : IntKind.i64.wrap n0 = n0 := wrap_i64 c1 c2
    have e2 : ¬ n0 < 0 := by omega
    have e3 : ¬ (n0 * (ie.bytes : Int) > 2 ^ 48) := by omega
    by_cases h00 : n0.toNat * ie.size = 0
    · have hnil : zeros z.cells (n0.toNat * z.cells.size) = #[] := by rw [hzs, h00]; simp [zeros]
      rw [hnil]
      simp only [Builtin.append_, h0, h1, List.getElem?_toArray, List.getElem?_cons_zero, List.getElem?_cons_succ, Sem.run_bind, run_underlying hu, run_underlying hd, Result.andThen_ok, run_sizeOf w hie, hsz, Sem.run_pure, if_true,
        asInt, asIntOf, e1, e2, if_false, run_typeInfo _ hie, e3, hnc, hn1, false_and, hn2, h00, Bool.not_true, Bool.false_eq_true, hch, run_askRoom, hold, hzw, zeroCells_eq, newRow, run_newObj]
      rfl
    · simp only [Builtin.append_, h0, h1, List.getElem?_toArray, List.getElem?_cons_zero, List.getElem?_cons_succ, Sem.run_bind, run_underlying hu, run_underlying hd, Result.andThen_ok, run_sizeOf w hie, hsz, Sem.run_pure, if_true,
        asInt, asIntOf, e1, e2, if_false, run_typeInfo _ hie, e3, hnc, hn1, false_and, hn2, h00, Bool.not_true, Bool.false_eq_true, hch, run_askRoom, hold, hzw, zeroCells_eq, newRow, run_newObj]
      rfl
  · have hds2 : (Builtin.firstCells ie.size n x).run P w.drew = .ok ds w.drew := by
      rcases hap2 with ⟨k, n0, rfl, _⟩ | ⟨_, _, h2⟩
      · cases hb
      · exact h2
    cases d <;> first
      | (cases hb; done)
      | (simp only [Builtin.append_, h0, h1, List.getElem?_toArray, List.getElem?_cons_zero, List.getElem?_cons_succ, Sem.run_bind, run_underlying hu, run_underlying hd, Result.andThen_ok, run_sizeOf w hie, hsz, Sem.run_pure, Bool.false_eq_true, if_false, hn, hnc, hn1, false_and, hn2, if_true, Bool.not_false,
          run_typeInfo _ hie, hch, run_askRoom, hold, hds2, hzw, zeroCells_eq, newRow, run_newObj]
         rfl)
end Go.Am

set_option linter.unusedVariables false
set_option linter.unusedSimpArgs false
/- append: the abstract one is the world's. -/
namespace Go.Am
open Go
theorem getD_append_left' (A B : Array Value) (i : Nat) (h : i < A.size) : (A ++ B).getD i junk = A.getD i junk := by
  have h2 : i < A.size + B.size := by omega
  simp [Array.getD, h, h2, Array.getElem_append]
theorem getD_append_right' (A B : Array Value) (i : Nat) (h : A.size ≤ i) : (A ++ B).getD i junk = B.getD (i - A.size) junk := by
  by_cases h3 : i < A.size + B.size
  · have h4 : i - A.size < B.size := by omega
    have h5 : ¬ i < A.size := by omega
    simp [Array.getD, h3, h4, Array.getElem_append, h5]
  · rw [getD_ge i (by simpa using h3), getD_ge _ (by omega)]
theorem CRel.append {f : Emb} {L : Nat} {A A' B B' : Array Value} (h : CRel f L A A') (k : CRel f L B B') : CRel f L (A ++ B) (A' ++ B') := by
  refine ⟨by simp [h.1, k.1], fun i => ?_⟩
  by_cases hi : i < A.size
  · rw [getD_append_left' _ _ _ hi, getD_append_left' _ _ _ (h.1 ▸ hi)]; exact h.2 i
  · rw [getD_append_right' _ _ _ (by omega), getD_append_right' _ _ _ (by have := h.1; omega), h.1]; exact k.2 _
theorem orel_grown {f : Emb} {L : Nat} {A B Z : Array Value} {es r : Nat} {elem : TypeId} (h : CRel f L A B) (htag : tagN ≤ es → es = tagN + elem) :
    ORel f L ⟨r, 0, A.size, A.size + Z.size, es⟩ (.cells A es true) (.cells (B ++ Z) elem (0, 0)) := by
  refine ⟨_, _, _, rfl, rfl, rfl, by simp, fun _ => ⟨by simp [h.1], NoFr.zero _, fun h2 => ⟨htag h2, rfl, by simp [h.1]⟩⟩, by simp [h.1], fun i hi => ?_⟩
  simp only [Nat.zero_add]
  rw [getD_append_left' _ _ _ (h.1 ▸ hi)]
  exact h.2 i
theorem Step.after_drew {P : Program} {f f1 : Emb} {h h1 : AH} {w w1 : World} (hs : Sim P f h w) (s : Step P f h w.drew f1 h1 w1) : Step P f h w f1 h1 w1 :=
  (Step.drew hs).trans s
theorem sound_append {P : Program} {f : Emb} {h : AH} {w : World} (hs : Sim P f h w) {ts : Array TypeId} {sT xT ty : TypeId} (h0 : ts[0]? = some sT) (h1 : ts[1]? = some xT) {s s' x x' : Value} (hS : VRel f h.length s s') (hx : VRel f h.length x x')
    {r : Value} {h2 : AH} (ha : aappend P h sT xT s x = some (r, h2)) :
    ∃ f1 r' w1, (Builtin.append_ ts ty #[s', x']).run P w = .ok r' w1 ∧ Step P f h w f1 h2 w1 ∧ VRel f1 h2.length r r' := by
  unfold aappend at ha
  split at ha
  case h_2 => cases ha
  rename_i elem hu
  split at ha
  case h_2 => cases ha
  rename_i ie zc hie hzc
  obtain ⟨i, z, hi, hz, hzc', hall, hsz, hpos⟩ := zeroCellsOf_spec hzc
  have hii : i = ie := by rw [hi] at hie; exact Option.some.inj hie
  subst hii
  subst hzc'
  split at ha
  case h_2 => cases ha
  rename_i n new hap
  obtain ⟨d, hd, ds, hA, hcr, hsize⟩ := sound_appended hs hie hzc hx hap
  have hsd : Sim P f h w.drew := hs.congr rfl
  obtain ⟨d2, hd2, ds2, hA2, hcr2, _⟩ := sound_appended hsd hie hzc hx hap
  have hdd : d2 = d := by rw [hd] at hd2; exact (Option.some.inj hd2).symm
  subst hdd
  -- all is copied
  have grow : ∀ (es : Nat) (hes : szOf es = i.size) (htag : tagN ≤ es → es = tagN + elem) (base : Option Addr) (len cap : Nat) (hk : AH) (old : Array Value) (oldA : Array Value), Step P f h w.drew f hk w.drew → hk.length = h.length → cap < len + n → (2 * (len + n) + 192) * i.bytes ≤ 2 ^ 48 → len + n < 2 ^ 62 →
      (Builtin.firstCells i.size len (.slice base len cap)).run P w.drew = .ok old w.drew → CRel f h.length oldA old → oldA.size = len * i.size →
      ∃ f1 r' w1, (Builtin.append_ ts ty #[.slice base len cap, x']).run P w = .ok r' w1 ∧ Step P f h w f1 (hk ++ [.cells (oldA ++ new) es true]) w1 ∧ VRel f1 (h.length + 1) (.slice (some ⟨h.length, 0, none⟩) (len + n) (len + n)) r' := by
    intro es hes htag base len cap hk old oldA hst hkl hcap hb1 hb2 hold hco hso
    obtain ⟨newCap, hnc, hrun⟩ := append_grow w h0 h1 hu hd hie hz hsz base len cap x' hA hA2 hcap hb1 hb2 hold
    have hnew := hco.append hcr2
    have hAsz : (oldA ++ new).size = (len + n) * i.size := by simp [hso, hsize, Nat.add_mul]
    have hzsz : (zeros z.cells ((newCap - (len + n)) * z.cells.size)).size = (newCap - (len + n)) * i.size := by rw [size_zeros, hsz]
    have halloc := Step.alloc hst.sim (.cells (oldA ++ new) es true) (.cells (old ++ ds2 ++ zeros z.cells ((newCap - (len + n)) * z.cells.size)) elem)
      ⟨w.drew.heap.size, 0, (oldA ++ new).size, (oldA ++ new).size + (zeros z.cells ((newCap - (len + n)) * z.cells.size)).size, es⟩ rfl (by rw [hkl]; exact orel_grown hnew htag)
    refine ⟨_, _, _, hrun, Step.after_drew hs (hst.trans halloc), ?_⟩
    refine .slice h.length 0 _ _ _ _ _ (by omega) ?_ ?_ (.inr ⟨?_, ?_, ?_, by omega⟩)
    · rw [← hkl, upd_eq]; rfl
    · rw [← hkl, upd_eq]
    · rw [← hkl, upd_eq]; simp only [hes]; omega
    · rw [← hkl, upd_eq]; simp only [hAsz, hes]; omega
    · rw [← hkl, upd_eq]; simp only [hAsz, hzsz, hes]
      rw [← Nat.add_mul]
      have : len + n + (newCap - (len + n)) = newCap := by omega
      rw [this]; omega
  split at ha
  · -- nil
    have hS' : s' = .slice none 0 0 := plain_inv rfl hS
    subst hS'
    split at ha
    · rename_i hn0
      subst hn0
      simp only [Option.some.injEq, Prod.mk.injEq] at ha
      obtain ⟨rfl, rfl⟩ := ha
      refine ⟨f, .slice none 0 0, w, ?_, Step.refl hs, .nilSlice 0 0⟩
      rw [append_room w h0 h1 hu hd hie hz hsz none 0 0 x' hA (by omega)]
      rfl
    · rename_i hn0
      split at ha
      · rename_i hb
        simp only [Option.some.injEq, Prod.mk.injEq] at ha
        obtain ⟨rfl, rfl⟩ := ha
        obtain ⟨f1, r', w1, g1, g2, g3⟩ := grow i.size (szOf_lt (by have := (zeroCellsOf_tag hzc).1; omega)) (fun hh => absurd hh (by have := (zeroCellsOf_tag hzc).1; omega)) none 0 0 h #[] #[] (Step.refl hsd) rfl (by omega) (by simpa using hb.1) (by omega) rfl crel_nil (by simp)
        refine ⟨f1, r', w1, g1, by simpa using g2, by simpa using g3⟩
      · cases ha
  · rename_i xs ks
    split at ha
    case isFalse => cases ha
    rename_i hxk
    obtain ⟨hx0, hk0, hi1⟩ := hxk
    have hxs : xs = #[] := Array.eq_empty_of_size_eq_zero hx0
    have hks : ks = #[] := Array.eq_empty_of_size_eq_zero hk0
    subst hxs; subst hks
    obtain ⟨rfl, _, _⟩ := hS.bnil_inv
    split at ha
    · rename_i hn0
      subst hn0
      simp only [Option.some.injEq, Prod.mk.injEq] at ha
      obtain ⟨rfl, rfl⟩ := ha
      refine ⟨f, .slice none 0 0, w, ?_, Step.refl hs, .bnil⟩
      rw [append_room w h0 h1 hu hd hie hz hsz none 0 0 x' hA (by omega)]
      rfl
    · rename_i hn0
      split at ha
      · rename_i hb
        simp only [Option.some.injEq, Prod.mk.injEq] at ha
        obtain ⟨rfl, rfl⟩ := ha
        obtain ⟨f1, r', w1, g1, g2, g3⟩ := grow (tagN + elem) (by rw [szOf_tag, hi1]) (fun _ => rfl) none 0 0 h #[] #[] (Step.refl hsd) rfl (by omega) (by simpa using hb.1) (by omega) rfl crel_nil (by simp)
        refine ⟨f1, r', w1, g1, by simpa using g2, by simpa using g3⟩
      · cases ha
  · rename_i b o len cap
    split at ha
    · rename_i hn0
      obtain ⟨hn0, hlc⟩ := hn0
      subst hn0
      simp only [Option.some.injEq, Prod.mk.injEq] at ha
      obtain ⟨rfl, rfl⟩ := ha
      have hds : ds = #[] := by
        have := hcr.1
        exact Array.eq_empty_of_size_eq_zero (by rw [← this, hsize]; simp)
      subst hds
      rcases hS.slice_inv with ⟨cap', rfl, hbL, hc⟩ | ⟨rfl, rfl, a', rfl, _⟩
      · have hcc : cap ≤ cap' := hc.le
        refine ⟨f, _, w, ?_, Step.refl hs, hS⟩
        rw [append_room w h0 h1 hu hd hie hz hsz _ len cap' x' hA (by omega)]
        rfl
      · refine ⟨f, _, w, ?_, Step.refl hs, hS⟩
        rw [append_room w h0 h1 hu hd hie hz hsz _ 0 0 x' hA (by omega)]
        rfl
    · rename_i hne
      split at ha
      · rename_i c es hb
        split at ha
        · rename_i hc1
          obtain ⟨hle, hes⟩ := hc1
          obtain ⟨o', ho', hrel⟩ := hs.obj b _ hb rfl
          have hrel0 := hrel
          obtain ⟨c', elem', fr, rfl, q2, q3, q4, q5, q6, q7⟩ := hrel
          obtain ⟨hN, hfr⟩ := q5 rfl
          obtain ⟨olds, ho1, ho2, ho3, ho4⟩ := hsd.loadCells hb o (len * i.size) hle
          have hold : CRel f h.length (c.extract o (o + len * i.size)) olds := ⟨by simp; omega, fun j => ⟨ho3 j, ho4 j⟩⟩
          split at ha
          · -- there is room, by what is known
            rename_i hroom
            split at ha
            · rename_i hfit
              simp only [Option.some.injEq, Prod.mk.injEq] at ha
              obtain ⟨rfl, rfl⟩ := ha
              have hlist := hcr.list
              have hnl : new.toList.length = n * i.size := by simpa using hsize
              obtain ⟨w1, k1, k2⟩ := sound_storeCells hs hb (o := o + len * i.size) (vs := new.toList) (vs' := ds.toList) hlist.1 (by rw [hnl, Nat.add_assoc, ← Nat.add_mul]; exact hfit) hlist.2
              have hlen2 : (h.set b (.cells (blit c (o + len * i.size) new.toList) es true)).length = h.length := by simp
              rcases hS.slice_inv with ⟨cap', rfl, hbL, hc⟩ | ⟨rfl, rfl, a', rfl, _⟩
              · have hcc : cap ≤ cap' := hc.le
                refine ⟨f, .slice (some ⟨(f b).blk, (f b).off + o, none⟩) (len + n) cap', w1, ?_, k2, by rw [hlen2]; exact .slice b _ _ _ _ _ _ hbL rfl rfl hc⟩
                rw [append_room w h0 h1 hu hd hie hz hsz _ len cap' x' hA (by omega)]
                simp only [addr_add]
                rw [Nat.add_assoc, k1]
                rfl
              · exfalso; omega
            · cases ha
          · rename_i hroom
            split at ha
            · rename_i hbd
              obtain ⟨hb1, hb2⟩ := hbd
              simp only [Option.some.injEq, Prod.mk.injEq] at ha
              obtain ⟨rfl, rfl⟩ := ha
              have hlenr : (h.set b .dead ++ [AObj.cells (c.extract o (o + len * i.size) ++ new) es true]).length = h.length + 1 := by simp
              rw [hlenr]
              have hextsz : (c.extract o (o + len * i.size)).size = len * i.size := by simp; omega
              rcases hS.slice_inv with ⟨cap', rfl, hbL, hc⟩ | ⟨rfl, rfl, a', rfl, _⟩
              · by_cases hreal : len + n ≤ cap'
                · -- the world has room, which the abstract heap does not know
                  rcases hc with rfl | ⟨k1, k2, k3, k4⟩
                  · omega
                  rw [← q3, hes.szOf] at k1 k2 k3
                  have hfits : (f b).off + (o + len * i.size) + ds.toList.length ≤ c'.size := by
                    have e1 : ds.toList.length = n * i.size := by have := hcr.1; simp; omega
                    have e2 : (len + n) * i.size ≤ cap' * i.size := Nat.mul_le_mul_right _ hreal
                    rw [Nat.add_mul] at e2
                    omega
                  obtain ⟨w1, g1, g2, g3, g4, g5, g6, g7, g8⟩ := run_storeAt (P := P) ho' hfr.at ds.toList hfits (hcr.list.2 · |>.2)
                  have hAsz : (c.extract o (o + len * i.size) ++ new).size = (len + n) * i.size := by simp only [Array.size_append, hextsz, hsize, Nat.add_mul]
                  have e2 : (len + n) * i.size ≤ cap' * i.size := Nat.mul_le_mul_right _ hreal
                  have horel : ORel f h.length ⟨(f b).blk, (f b).off + o, (len + n) * i.size, (f b).N, es⟩ (.cells (c.extract o (o + len * i.size) ++ new) es true) (.cells (blit c' ((f b).off + (o + len * i.size)) ds.toList) elem' fr) := by
                    refine ⟨_, _, _, rfl, hAsz, rfl, by simp only; omega, fun _ => ⟨by rw [size_blit]; exact hN, by rw [size_blit]; exact ⟨hfr.nofr, fun h2 => by have h3 := hfr.tag h2; have h4 := hes.tag h2; exact ⟨h3.1, by simp only; omega, h3.2.2⟩⟩⟩, by rw [size_blit]; simp only; omega, fun j hj => ?_⟩
                    rw [hAsz] at hj
                    have hdl : ds.toList.length = n * i.size := by have := hcr.1; simp; omega
                    rw [getD_blit]
                    by_cases hjl : j < len * i.size
                    · rw [getD_append_left' _ _ _ (by omega), getD_extract _ _ _ _ hle, if_pos hjl, if_neg (by simp only; omega)]
                      have := q7 (o + j) (by omega)
                      simpa [Nat.add_assoc] using this
                    · rw [getD_append_right' _ _ _ (by omega), hextsz, if_pos (by simp only; rw [Nat.add_mul] at hj e2; omega)]
                      have e4 : (f b).off + o + j - ((f b).off + (o + len * i.size)) = j - len * i.size := by omega
                      simp only [e4]
                      have := hcr.list.2 (j - len * i.size)
                      simpa [Array.getD_eq_getD_getElem?, List.getD] using this
                  have hmv := Step.move hs hb rfl ⟨(f b).blk, (f b).off + o, (len + n) * i.size, (f b).N, es⟩ rfl ok_cells g2 horel g3 g4 g5 g6 g7 g8
                  refine ⟨_, .slice (some ⟨(f b).blk, (f b).off + o, none⟩) (len + n) cap', w1, ?_, hmv, ?_⟩
                  · rw [append_room w h0 h1 hu hd hie hz hsz _ len cap' x' hA hreal]
                    simp only [addr_add]
                    rw [Nat.add_assoc, g1]
                    rfl
                  · refine .slice h.length 0 _ _ _ _ _ (by omega) ?_ ?_ (.inr ⟨?_, ?_, ?_, by omega⟩)
                    · rw [upd_eq]
                    · rw [upd_eq]; rfl
                    · rw [upd_eq]; simp only [hes.szOf]; exact k1
                    · rw [upd_eq]; simp [hes.szOf]
                    · rw [upd_eq]; simp only [hes.szOf]; omega
                · obtain ⟨f1, r', w1, g1, g2, g3⟩ := grow es hes.szOf (fun h2 => (hes.tag h2).1) (some ⟨(f b).blk, (f b).off + o, none⟩) len cap' (h.set b .dead) olds _ (Step.kill hsd b) (by simp) (by omega) hb1 hb2 (by simpa [Builtin.firstCells] using ho1) hold hextsz
                  exact ⟨f1, r', w1, g1, g2, g3⟩
              · have e0 : c.extract o (o + 0 * i.size) = #[] := by simp; omega
                obtain ⟨f1, r', w1, g1, g2, g3⟩ := grow es hes.szOf (fun h2 => (hes.tag h2).1) (some a') 0 0 (h.set b .dead) #[] #[] (Step.kill hsd b) (by simp) (by omega) hb1 hb2 (by simp [Builtin.firstCells, run_loadCells_zero]) crel_nil (by simp)
                rw [e0]
                exact ⟨f1, r', w1, g1, g2, g3⟩
            · cases ha
        · cases ha
      · cases ha
  · cases ha
end Go.Am

set_option linter.unusedVariables false
set_option linter.unusedSimpArgs false
/- Numbers, conversions, functions, lengths. -/
namespace Go.Am
open Go
def aint (op : BinOp) (k : IntKind) (a b : Int) : Option Value :=
  match op with
  | .add => some (.int k (k.wrap (a + b)))
  | .sub => some (.int k (k.wrap (a - b)))
  | .mul => some (.int k (k.wrap (a * b)))
  | .quo => if b = 0 then none else some (.int k (k.wrap (a.tdiv b)))
  | .rem => if b = 0 then none else some (.int k (a.tmod b))
  | .and => some (.int k (k.wrap (BitVec.ofInt k.bits a &&& BitVec.ofInt k.bits b).toNat))
  | .or => some (.int k (k.wrap (BitVec.ofInt k.bits a ||| BitVec.ofInt k.bits b).toNat))
  | .xor => some (.int k (k.wrap (BitVec.ofInt k.bits a ^^^ BitVec.ofInt k.bits b).toNat))
  | .andNot => some (.int k (k.wrap (BitVec.ofInt k.bits a &&& ~~~ BitVec.ofInt k.bits b).toNat))
  | .eql => some (.bool (a == b))
  | .neq => some (.bool (a != b))
  | .lss => some (.bool (a < b))
  | .leq => some (.bool (a ≤ b))
  | .gtr => some (.bool (a > b))
  | .geq => some (.bool (a ≥ b))
  | .shl | .shr => none
/-- a result is taken if it is plain -/
def plainOut : Option Value → Option Value
  | some r => if plainB r then some r else none
  | none => none
theorem plainOut_some {o : Option Value} {r : Value} (h : plainOut o = some r) : o = some r ∧ plainB r = true := by
  unfold plainOut at h
  split at h
  · split at h
    · rename_i hp; cases h; exact ⟨rfl, hp⟩
    · cases h
  · cases h
/-- is it nil? -/
def nilV (d : TypeDesc) (v : Value) : Option Bool :=
  match d, v with
  | .slice _, .slice none _ _ => some true
  | .slice _, .slice (some _) _ _ => some false
  | .slice _, .func (.yield 0) _ _ => some false
  | .pointer _, .pointer none => some true
  | .pointer _, .pointer (some _) => some false
  | .pointer _, .func (.yield 1) _ _ => some false
  | .map _ _, .map none => some true
  | .map _ _, .map (some _) => some false
  | .func _ _ _, .nilFunc => some true
  | .func _ _ _, .func (.func _) _ _ => some false
  | .interface _, .nilIface => some true
  | .interface _, .iface _ _ => some false
  | _, _ => none
/-- one of the two is nil, the other one is not -/
def nilCmp (P : Program) (op : BinOp) (t : TypeId) (a b : Value) : Option Value :=
  match P.underlying t with
  | some d => match nilV d a, nilV d b with
    | some x, some y => if x = y then none else (match op with
      | .eql => some (.bool false)
      | .neq => some (.bool true)
      | _ => none)
    | _, _ => none
  | none => none
/-- is it nil? (of the world's values) -/
def nilR (d : TypeDesc) (v : Value) : Option Bool :=
  match d, v with
  | .slice _, .slice a _ _ => some a.isNone
  | .pointer _, .pointer a => some a.isNone
  | .map _ _, .map a => some a.isNone
  | .func _ _ _, .nilFunc => some true
  | .func _ _ _, .func _ _ _ => some false
  | .interface _, .nilIface => some true
  | .interface _, .iface _ _ => some false
  | _, _ => none
theorem nilV_rel {d : TypeDesc} {f : Emb} {L : Nat} {v v' : Value} {x : Bool} (h : nilV d v = some x) (r : VRel f L v v') : nilR d v' = some x := by
  cases r with
  | junk => cases d <;> simp [nilV, junk] at h
  | func fn xs ys cs ds hfn => cases fn <;> first | (cases hfn; done) | (cases d <;> first | (cases h; done) | exact h)
  | fz => cases d <;> first | (cases h; done) | exact h
  | fz0 => cases d <;> first | (cases h; done) | exact h
  | fp => cases d <;> first | (cases h; done) | exact h
  | _ => cases d <;> first | (cases h; done) | exact h
inductive Mixed : TypeDesc → Value → Value → Prop
  | s1 (e : TypeId) (l c : Nat) (q : Addr) (l' c' : Nat) : Mixed (.slice e) (.slice none l c) (.slice (some q) l' c')
  | s2 (e : TypeId) (l c : Nat) (q : Addr) (l' c' : Nat) : Mixed (.slice e) (.slice (some q) l' c') (.slice none l c)
  | p1 (e : TypeId) (q : Addr) : Mixed (.pointer e) (.pointer none) (.pointer (some q))
  | p2 (e : TypeId) (q : Addr) : Mixed (.pointer e) (.pointer (some q)) (.pointer none)
  | m1 (k e : TypeId) (q : Nat) : Mixed (.map k e) (.map none) (.map (some q))
  | m2 (k e : TypeId) (q : Nat) : Mixed (.map k e) (.map (some q)) (.map none)
  | f1 (p r : Array TypeId) (v : Bool) (fn : Fn) (xs ys : Array Value) : Mixed (.func p r v) .nilFunc (.func fn xs ys)
  | f2 (p r : Array TypeId) (v : Bool) (fn : Fn) (xs ys : Array Value) : Mixed (.func p r v) (.func fn xs ys) .nilFunc
  | i1 (d : TypeDesc) (hd : ∃ ms, d = .interface ms) (t : TypeId) (v : Value) : Mixed d .nilIface (.iface t v)
  | i2 (d : TypeDesc) (hd : ∃ ms, d = .interface ms) (t : TypeId) (v : Value) : Mixed d (.iface t v) .nilIface
theorem mixed_of {d : TypeDesc} {a b : Value} {x y : Bool} (ha : nilR d a = some x) (hb : nilR d b = some y) (hxy : x ≠ y) : Mixed d a b := by
  have two : ∀ {α : Type} (p q : Option α), some p.isNone = some x → some q.isNone = some y → (p = none ∧ q.isSome = true) ∨ (p.isSome = true ∧ q = none) := by
    intro α p q h1 h2
    cases p <;> cases q <;> cases h1 <;> cases h2 <;> first | exact absurd rfl hxy | exact .inl ⟨rfl, rfl⟩ | exact .inr ⟨rfl, rfl⟩
  cases d with
  | slice el =>
    cases a <;> first | (cases ha; done) | skip
    cases b <;> first | (cases hb; done) | skip
    rename_i p _ _ q _ _
    rcases two p q ha hb with ⟨rfl, h⟩ | ⟨h, rfl⟩
    · cases q <;> first | (cases h; done) | exact .s1 ..
    · cases p <;> first | (cases h; done) | exact .s2 ..
  | pointer el =>
    cases a <;> first | (cases ha; done) | skip
    cases b <;> first | (cases hb; done) | skip
    rename_i p q
    rcases two p q ha hb with ⟨rfl, h⟩ | ⟨h, rfl⟩
    · cases q <;> first | (cases h; done) | exact .p1 ..
    · cases p <;> first | (cases h; done) | exact .p2 ..
  | map k el =>
    cases a <;> first | (cases ha; done) | skip
    cases b <;> first | (cases hb; done) | skip
    rename_i p q
    rcases two p q ha hb with ⟨rfl, h⟩ | ⟨h, rfl⟩
    · cases q <;> first | (cases h; done) | exact .m1 ..
    · cases p <;> first | (cases h; done) | exact .m2 ..
  | func p r v =>
    cases a <;> first | (cases ha; done) | skip
    all_goals (cases b <;> first | (cases hb; done) | skip)
    all_goals first | exact .f1 .. | exact .f2 .. | (cases ha; cases hb; exact absurd rfl hxy)
  | interface ms =>
    cases a <;> first | (cases ha; done) | skip
    all_goals (cases b <;> first | (cases hb; done) | skip)
    all_goals first | (cases ha; cases hb; exact absurd rfl hxy) | exact .i1 _ ⟨_, rfl⟩ .. | exact .i2 _ ⟨_, rfl⟩ ..
  | _ => cases ha
theorem mixed_equal {P : Program} {t : TypeId} {d : TypeDesc} (hu : P.underlying t = some d) {a b : Value} (m : Mixed d a b) (w : World) :
    (Op.equal t a b).run P w = .ok false w := by
  have e : Op.equal t a b = Op.equalIn (9999 + 1) t a b := rfl
  rw [e]
  unfold Op.equalIn
  simp only [Sem.run_bind, run_underlying hu, Result.andThen_ok]
  cases m with
  | i1 _ hd _ _ => obtain ⟨ms, rfl⟩ := hd; rfl
  | i2 _ hd _ _ => obtain ⟨ms, rfl⟩ := hd; rfl
  | _ => rfl
theorem nilCmp_sound {P : Program} {op : BinOp} {t : TypeId} {x y : Operand} {f : Emb} {L : Nat} {a b a' b' : Value} {r : Value} (h : nilCmp P op t a b = some r) (ra : VRel f L a a') (rb : VRel f L b b') (w : World) :
    ((do eqGuard op t x y a' b'; binOp op t a' b') : Sem Value).run P w = .ok r w ∧ plainB r = true := by
  unfold nilCmp at h
  split at h
  case h_2 => cases h
  rename_i d hu
  split at h
  case h_2 => cases h
  rename_i u v hu1 hv1
  split at h
  · cases h
  rename_i hne
  have m := mixed_of (nilV_rel hu1 ra) (nilV_rel hv1 rb) hne
  have e := mixed_equal hu m w
  split at h <;> cases h
  all_goals
    refine ⟨?_, rfl⟩
    cases m
    all_goals
      simp only [Sem.run_bind, eqGuard, Bool.not_true, Bool.false_eq_true, if_false, Sem.run_pure, Result.andThen_ok, binOp, e, Bool.not_false]
def ptrT (P : Program) (t : TypeId) : Bool :=
  match P.underlying t with
  | some (.pointer e) => (P.info? e).isSome
  | _ => false
theorem ptrT_spec {P : Program} {t : TypeId} (h : ptrT P t = true) : ∃ e j, P.underlying t = some (.pointer e) ∧ P.info? e = some j := by
  unfold ptrT at h
  split at h
  · rename_i e hu
    obtain ⟨j, hj⟩ := Option.isSome_iff_exists.1 h
    exact ⟨e, j, hu, hj⟩
  · cases h
def abinOp (P : Program) (op : BinOp) (t : TypeId) (x y : Operand) (a b : Value) : Option Value :=
  match op, a, b with
  | .shl, .int k a, .int _ b => if b < 0 then none else some (.int k (k.wrap (a * 2 ^ (min b.toNat k.bits))))
  | .shr, .int k a, .int _ b => if b < 0 then none else some (.int k (a.fdiv (2 ^ (min b.toNat k.bits))))
  | op, .int k a, .int k' b => if k = k' then aint op k a b else none
  | .neq, .pointer (some ⟨b, o, none⟩), .pointer (some ⟨b', o', none⟩) => if b = b' ∧ o = o' ∧ ptrT P t = true then some (.bool false) else none
  | op, a, b => if plainB a && plainB b then plainOut (pureRun P (do eqGuard op t x y a b; binOp op t a b)) else nilCmp P op t a b
theorem run_eqGuard_int {P : Program} (w : World) (op : BinOp) (t : TypeId) (x y : Operand) (k k' : IntKind) (a b : Int) : (eqGuard op t x y (.int k a) (.int k' b)).run P w = .ok () w := by
  cases op <;> simp [eqGuard]
theorem run_aint {P : Program} (w : World) (op : BinOp) (t : TypeId) (k : IntKind) (a b : Int) {r : Value} (h : aint op k a b = some r) : (binOp op t (.int k a) (.int k b)).run P w = .ok r w := by
  cases op <;> simp only [aint] at h <;> (try split at h) <;> (first | (simp only [Option.some.injEq] at h; subst h) | cases h) <;>
    (first | (simp [binOp, Op.intArith]; done) | (simp [binOp, Op.intDiv, *]; done) | (simp [binOp, Op.intBits]; done) | (simp [binOp, Op.intCmp]; done))
theorem sound_binOp {P : Program} {f : Emb} {L : Nat} (w : World) (op : BinOp) (t : TypeId) (x y : Operand) {a a' b b' : Value} (ha : VRel f L a a') (hb : VRel f L b b') {r : Value} (h : abinOp P op t x y a b = some r) :
    ∃ r', ((do eqGuard op t x y a' b'; binOp op t a' b') : Sem Value).run P w = .ok r' w ∧ VRel f L r r' := by
  unfold abinOp at h
  split at h
  · rename_i k a b kb
    cases ha.int_inv; cases hb.int_inv
    split at h
    · cases h
    · rename_i hn
      simp only [Option.some.injEq] at h
      subst h
      exact ⟨_, by simp [run_eqGuard_int, binOp, Op.shift, hn], .int _ _⟩
  · rename_i k a b kb
    cases ha.int_inv; cases hb.int_inv
    split at h
    · cases h
    · rename_i hn
      simp only [Option.some.injEq] at h
      subst h
      exact ⟨_, by simp [run_eqGuard_int, binOp, Op.shift, hn], .int _ _⟩
  · rename_i k a k' b _ _
    cases ha.int_inv; cases hb.int_inv
    split at h
    · rename_i hk
      subst hk
      refine ⟨r, by simp only [Sem.run_bind, run_eqGuard_int, Result.andThen_ok, run_aint w op t k a b h], ?_⟩
      cases op <;> simp only [aint] at h <;> (try split at h) <;> (first | (simp only [Option.some.injEq] at h; subst h) | cases h) <;> first | exact .int _ _ | exact .bool _
    · cases h
  · rename_i b o b' o'
    split at h
    · rename_i hc
      obtain ⟨rfl, rfl, hpt⟩ := hc
      cases h
      obtain ⟨rfl, _⟩ := ha.ptr_inv
      obtain ⟨rfl, _⟩ := hb.ptr_inv
      obtain ⟨e, j, hu, hj⟩ := ptrT_spec hpt
      refine ⟨.bool false, ?_, .bool _⟩
      have := Lib.run_neq_ptr_same (P := P) w ⟨(f b).blk, (f b).off + o, none⟩ hu hj
      simp only [Sem.run_bind, eqGuard, Bool.not_true, Bool.false_eq_true, if_false, Sem.run_pure, Result.andThen_ok, this]
    · cases h
  · split at h
    · rename_i hp
      simp only [Bool.and_eq_true] at hp
      cases plain_inv hp.1 ha
      cases plain_inv hp.2 hb
      obtain ⟨h1, h2⟩ := plainOut_some h
      exact ⟨r, pureRun_run h1 w, plain_refl h2⟩
    · obtain ⟨h1, h2⟩ := nilCmp_sound (x := x) (y := y) h ha hb w
      exact ⟨r, h1, plain_refl h2⟩
def aunOp (P : Program) (op : UnOp) (a : Value) : Option Value :=
  match op, a with
  | .not, .bool b => some (.bool !b)
  | .neg, .int k n => some (.int k (k.wrap (0 - n)))
  | .xor, .int k n => some (.int k (k.wrap (BitVec.ofInt k.bits (if k.signed then -1 else k.max) ^^^ BitVec.ofInt k.bits n).toNat))
  | _, _ => none
theorem sound_unOp {P : Program} {f : Emb} {L : Nat} (w : World) (op : UnOp) {a a' : Value} (ha : VRel f L a a') {r : Value} (h : aunOp P op a = some r) :
    ∃ r', (Op.unary op a').run P w = .ok r' w ∧ VRel f L r r' := by
  unfold aunOp at h
  split at h
  · cases ha.bool_inv; cases h; exact ⟨_, rfl, .bool _⟩
  · cases ha.int_inv; cases h; exact ⟨_, rfl, .int _ _⟩
  · cases ha.int_inv; cases h; exact ⟨_, rfl, .int _ _⟩
  · cases h
def anilCheck (x : Value) : Option Value :=
  match x with
  | .pointer (some a) => some (.pointer (some a))
  | .func (.func F) xs cs => some (.func (.func F) xs cs)
  | .iface t v => some (.iface t v)
  | .func (.yield 1) xs cs => some (.func (.yield 1) xs cs)
  | _ => none
theorem sound_nilCheck {P : Program} {f : Emb} {L : Nat} (w : World) (ρ : Operand → Value) (o : Oper) (x : Operand) (ho : o.op = .nilCheck x) {a : Value} (ha : VRel f L a (ρ x)) {r : Value} (h : anilCheck a = some r) :
    ∃ r', (execOp ρ o).run P w = .ok (.value r') w ∧ VRel f L r r' := by
  unfold anilCheck at h
  split at h
  · rename_i a0
    cases h
    generalize hx : ρ x = y at ha
    cases ha with
    | ptr b o' r o'' hb hr ho' => exact ⟨_, by simp [execOp, ho, hx], .ptr b o' r o'' hb hr ho'⟩
  · rename_i F xs cs
    cases h
    generalize hx : ρ x = y at ha
    cases ha with
    | func fn xs ys cs ds hfn h1 h2 h3 h4 => exact ⟨_, by simp [execOp, ho, hx], .func _ _ _ _ _ hfn h1 h2 h3 h4⟩
  · rename_i t v
    cases h
    generalize hx : ρ x = y at ha
    cases ha with
    | iface t v v' hv => exact ⟨_, by simp [execOp, ho, hx], .iface _ _ _ hv⟩
  · rename_i xs cs
    cases h
    generalize hx : ρ x = y at ha
    have ha0 := ha
    obtain ⟨k, r, o', ds, rfl, rfl, _⟩ := ha.fp_inv
    exact ⟨_, by simp [execOp, ho, hx], ha0⟩
  · cases h
def aarrayPtr (P : Program) (t : TypeId) (x : Value) : Option Value :=
  match P.underlying t, x with
  | some (.array n _), .slice (some ⟨b, o, none⟩) len _ => if n ≤ len ∧ 0 < len then some (.pointer (some ⟨b, o, none⟩)) else none
  | some (.array n _), .func (.yield 0) cs ks => match fzN ks with
    | some len => if n ≤ len ∧ 0 < len then some (fp cs 0) else none
    | none => none
  | _, _ => none
theorem sound_arrayPtr {P : Program} {f : Emb} {L : Nat} (w : World) {t : TypeId} {x x' : Value} (hx : VRel f L x x') {r : Value} (h : aarrayPtr P t x = some r) :
    ∃ r', (Instr.arrayAt t x').run P w = .ok r' w ∧ VRel f L r r' := by
  unfold aarrayPtr at h
  split at h
  · rename_i n e b o len cap hu
    split at h
    · rename_i hle
      cases h
      rcases hx.slice_inv with ⟨c', rfl, hb, _⟩ | ⟨h0, _, _, _, _⟩
      · have : ¬ (len < n) := by omega
        exact ⟨_, by simp only [Instr.arrayAt, Sem.run_bind, run_underlying hu, Result.andThen_ok, this, if_false, Sem.run_pure], .ptr b _ _ _ hb rfl rfl⟩
      · omega
    · cases h
  · rename_i n e cs ks hu
    obtain ⟨n0, rfl, hcz⟩ := hx.fz_inv
    rw [fzN_lit] at h
    simp only at h
    split at h
    · rename_i hle
      cases h
      rcases hcz with ⟨r0, o0, c0, ds, rfl, hrom, hle2, hn, hxy, hone⟩ | ⟨rfl, _⟩
      · have : ¬ (n0 < n) := by omega
        exact ⟨_, by simp only [Instr.arrayAt, Sem.run_bind, run_underlying hu, Result.andThen_ok, this, if_false, Sem.run_pure]; rfl, .fp cs 0 r0 o0 _ ds hrom hle2 rfl hxy hone⟩
      · omega
    · cases h
  · cases h
def amakeIface (P : Program) (t : TypeId) (x : Value) : Option Value :=
  match P.underlying t with
  | some (.interface _) => none
  | some _ => some (.iface t x)
  | none => none
theorem sound_makeIface {P : Program} {f : Emb} {L : Nat} (w : World) {t : TypeId} {x x' : Value} (hx : VRel f L x x') {r : Value} (h : amakeIface P t x = some r) :
    ∃ r', (Instr.makeInterface t x').run P w = .ok r' w ∧ VRel f L r r' := by
  unfold amakeIface at h
  split at h
  · cases h
  · rename_i d hni hu
    cases h
    refine ⟨.iface t x', ?_, .iface _ _ _ hx⟩
    cases d <;> first
      | (exfalso; exact hni _ rfl)
      | simp only [Instr.makeInterface, Sem.run_bind, run_underlying hu, Result.andThen_ok, Sem.run_pure]
  · cases h
def amakeFunc (fn : Fn) (first captured : Array Value) : Option Value :=
  match fn with
  | .func F => some (.func (.func F) first captured)
  | _ => none
theorem sound_makeFunc {P : Program} {f : Emb} {L : Nat} (w : World) {fn : Fn} {xs ys cs ds : Array Value} (hx : ARel f L xs ys) (hc : ARel f L cs ds) {r : Value} (h : amakeFunc fn xs cs = some r) :
    ∃ r', (Instr.makeFunc fn ys ds).run P w = .ok r' w ∧ VRel f L r r' := by
  unfold amakeFunc at h
  split at h
  · cases h; exact ⟨_, rfl, .func _ _ _ _ _ rfl hx.1 hx.2 hc.1 hc.2⟩
  · cases h
/-! ### lengths -/
def alen (P : Program) (h : AH) (t : TypeId) (x : Value) : Option Value :=
  match P.underlying t, x with
  | some .string, .string s => some (.int .i64 s.size)
  | some (.array n _), _ => some (.int .i64 n)
  | some (.pointer arr), _ => match P.underlying arr with
    | some (.array n _) => some (.int .i64 n)
    | _ => none
  | some (.slice _), .slice _ n _ => some (.int .i64 n)
  | some (.slice _), .func (.yield 0) _ ks => match fzN ks with
    | some n => some (.int .i64 n)
    | none => none
  | some (.slice _), .func (.yield 2) _ _ => some (.int .i64 0)
  | some (.map _ _), .map none => some (.int .i64 0)
  | some (.map _ _), .map (some b) => match h[b]? with
    | some (.map _ es _) => some (.int .i64 es.size)
    | _ => none
  | _, _ => none
theorem run_getObj_map {P : Program} {w : World} {r : Nat} {es : Array MapEntry} {c : Nat} (h : w.heap[r]? = some (.map es c)) : (getObj r).run P w = .ok (.map es c) w := by
  simp only [getObj, Sem.run, h]
theorem VRel.map_inv {f : Emb} {L : Nat} {b : Nat} {v' : Value} (h : VRel f L (.map (some b)) v') : v' = .map (some (f b).blk) ∧ b < L := by
  generalize hv : Value.map (some b) = v at h
  cases h with
  | map b' r hb hr => cases hv; subst hr; exact ⟨rfl, hb⟩
  | junk => simp [Am.junk] at hv
  | _ => cases hv
theorem sound_len {P : Program} {f : Emb} {h : AH} {w : World} (hs : Sim P f h w) {ts : Array TypeId} {t ty : TypeId} (h0 : ts[0]? = some t) {x x' : Value} (hx : VRel f h.length x x') {r : Value} (ha : alen P h t x = some r) :
    ∃ r', (Builtin.len_ ts ty #[x']).run P w = .ok r' w ∧ VRel f h.length r r' := by
  unfold alen at ha
  split at ha
  · rename_i s hu
    cases hx.string_inv; cases ha
    exact ⟨_, by simp only [Builtin.len_, h0, List.getElem?_toArray, List.getElem?_cons_zero, Sem.run_bind, run_underlying hu, Result.andThen_ok, Sem.run_pure, goInt], .int _ _⟩
  · rename_i n e hu
    cases ha
    exact ⟨_, by simp only [Builtin.len_, h0, List.getElem?_toArray, List.getElem?_cons_zero, Sem.run_bind, run_underlying hu, Result.andThen_ok, Sem.run_pure, goInt], .int _ _⟩
  · rename_i arr hu
    split at ha
    · rename_i n e hu2
      cases ha
      exact ⟨_, by simp only [Builtin.len_, h0, List.getElem?_toArray, List.getElem?_cons_zero, Sem.run_bind, run_underlying hu, run_underlying hu2, Result.andThen_ok, Sem.run_pure, goInt], .int _ _⟩
    · cases ha
  · rename_i e a n c hu
    cases ha
    have : ∃ a' c', x' = .slice a' n c' := by
      cases hx with
      | nilSlice => exact ⟨_, _, rfl⟩
      | slice => exact ⟨_, _, rfl⟩
      | slice0 => exact ⟨_, _, rfl⟩
    obtain ⟨a', c', rfl⟩ := this
    exact ⟨_, by simp only [Builtin.len_, h0, List.getElem?_toArray, List.getElem?_cons_zero, Sem.run_bind, run_underlying hu, Result.andThen_ok, Sem.run_pure, goInt], .int _ _⟩
  · rename_i e cs ks hu
    obtain ⟨n0, rfl, hcz⟩ := hx.fz_inv
    rw [fzN_lit] at ha
    cases ha
    have : ∃ a' c', x' = .slice a' n0 c' := by
      rcases hcz with ⟨r0, o0, c0, ds, rfl, _⟩ | ⟨rfl, _, a, c, rfl⟩
      · exact ⟨_, _, rfl⟩
      · exact ⟨_, _, rfl⟩
    obtain ⟨a', c', rfl⟩ := this
    exact ⟨_, by simp only [Builtin.len_, h0, List.getElem?_toArray, List.getElem?_cons_zero, Sem.run_bind, run_underlying hu, Result.andThen_ok, Sem.run_pure, goInt], .int _ _⟩
  · rename_i e xs ks hu
    obtain ⟨rfl, _, _⟩ := hx.bnil_inv
    cases ha
    exact ⟨_, by simp only [Builtin.len_, h0, List.getElem?_toArray, List.getElem?_cons_zero, Sem.run_bind, run_underlying hu, Result.andThen_ok, Sem.run_pure, goInt]; rfl, .int _ _⟩
  · rename_i kt et hu
    cases ha
    have hx' : x' = .map none := plain_inv rfl hx
    subst hx'
    exact ⟨_, by simp only [Builtin.len_, h0, List.getElem?_toArray, List.getElem?_cons_zero, Sem.run_bind, run_underlying hu, Result.andThen_ok, Sem.run_pure, goInt], .int _ _⟩
  · rename_i kt et b hu
    split at ha
    · rename_i es clk hb
      cases ha
      obtain ⟨rfl, hbL⟩ := hx.map_inv
      obtain ⟨o', ho', es', rfl, h2, h3⟩ := hs.obj b _ hb rfl
      exact ⟨.int .i64 es'.size, by simp only [Builtin.len_, h0, List.getElem?_toArray, List.getElem?_cons_zero, Sem.run_bind, run_underlying hu, Result.andThen_ok, run_getObj_map ho', Sem.run_pure, goInt], by rw [h2]; exact .int _ _⟩
    · cases ha
  · cases ha
/-! ### conversions -/
def bytesIn (cs : List Value) : Option (List UInt8) :=
  match cs with
  | [] => some []
  | .int .u8 n :: r => (bytesIn r).map (UInt8.ofNat n.toNat :: ·)
  | _ :: _ => none
theorem freeze_new (w : World) (c : Array Value) (e : TypeId) : (w.alloc (.cells c e)).freeze ⟨w.heap.size, c.size, none⟩ 1 = w.alloc (.cells c e (c.size, c.size + 1)) := by
  unfold World.freeze World.alloc
  simp only [Nat.one_ne_zero, if_false]
  congr 1
  apply Array.ext
  · simp
  · intro i h1 h2
    simp only [Array.getElem_modify, Array.getElem_push]
    simp at h2
    by_cases hi : i < w.heap.size
    · have : ¬ (w.heap.size = i) := by omega
      simp [hi, this]
    · have : i = w.heap.size := by omega
      subst this
      simp
def bcells (s : ByteArray) : Array Value := s.data.map fun (b : UInt8) => Value.int .u8 b.toNat
theorem bcells_crel {f : Emb} {L : Nat} (s : ByteArray) : CRel f L (bcells s) (bcells s) := bytes_crel s
theorem size_bcells (s : ByteArray) : (bcells s).size = s.size := by simp only [bcells, Array.size_map]; rfl
theorem sound_stringToBytes {P : Program} {f : Emb} {h : AH} {w : World} (hs : Sim P f h w) (e : TypeId) (s : ByteArray) :
    ∃ f1 r' w1, (Conv.stringToBytes e s).run P w = .ok r' w1 ∧ Step P f h w f1 (h ++ [.cells (bcells s) 1 true]) w1 ∧ VRel f1 (h.length + 1) (.slice (some ⟨h.length, 0, none⟩) s.size s.size) r' := by
  have hcap : ∃ cap, s.size ≤ cap ∧ (choose (.appendCap s.size 0 e)).run P w = .ok cap w.drew := by
    refine ⟨(Question.appendCap s.size 0 e).cut (w.tape w.drawn (.appendCap s.size 0 e)), ?_, ?_⟩
    · simp [Question.cut]
    · rw [run_choose]; simp [Question.forced]
  obtain ⟨cap, h1, h2⟩ := hcap
  have hcr := bcells_crel (f := f) (L := h.length) s
  have hsz := size_bcells s
  have hsd : Sim P f h w.drew := hs.congr rfl
  obtain ⟨C, hC⟩ : ∃ C, C = bcells s ++ Array.replicate (cap - s.size) (Value.int .u8 0) := ⟨_, rfl⟩
  have hCs : C.size = cap := by rw [hC]; simp only [Array.size_append, hsz, Array.size_replicate]; omega
  have halloc := Step.alloc hsd (.cells (bcells s) 1 true) (.cells C e (C.size, C.size + 1))
    ⟨w.drew.heap.size, 0, s.size, cap, 1⟩ rfl (by
      refine ⟨_, _, _, rfl, hsz, rfl, by simp only; omega, fun _ => ⟨by simp only [hCs]; omega, .inr (Nat.le_refl _), fun hh => absurd hh (by decide)⟩,
        by simp only [hCs]; omega, fun i hi => ?_⟩
      simp only [Nat.zero_add]
      rw [hC, getD_append_left' _ _ _ hi]
      exact hcr.2 i)
  refine ⟨_, .slice (some ⟨w.heap.size, 0, none⟩) s.size cap, _, ?_, Step.after_drew hs halloc, ?_⟩
  · have e0 : ((s.data.map fun (b : UInt8) => Value.int .u8 b.toNat) ++ Array.replicate (cap - s.size) (Value.int .u8 0)) = C := hC.symm
    have e2 : (w.drew.alloc (.cells C e)).shape? w.drew.heap.size = some (e, C.size) := by
      simp only [World.shape?, heap_alloc_new]
    simp only [Conv.stringToBytes, Sem.run_bind, h2, Result.andThen_ok, newRow, run_newObj, Sem.run_pure, markStringish, e0, World.alloc_eq]
    simp only [run_shape, Result.andThen_ok, e2, run_freeze, freeze_new, Sem.run_bind, Sem.run_pure]
    rfl
  · refine .slice h.length 0 _ _ _ _ _ (by omega) ?_ ?_ (.inr ⟨?_, ?_, ?_, h1⟩)
    · rw [upd_eq]; rfl
    · rw [upd_eq]
    · rw [upd_eq]; simp [show szOf 1 = 1 by decide]
    · rw [upd_eq]; simp [show szOf 1 = 1 by decide]
    · rw [upd_eq]; simp [show szOf 1 = 1 by decide]
theorem bytesIn_length (cs : List Value) : ∀ {l : List UInt8}, bytesIn cs = some l → l.length = cs.length := by
  induction cs with
  | nil => intro l h; simp [bytesIn] at h; subst h; rfl
  | cons v r ih =>
    intro l h
    cases v with
    | int k n =>
      cases k <;> simp [bytesIn] at h
      obtain ⟨l', h1, rfl⟩ := h
      simp [ih h1]
    | _ => simp [bytesIn] at h
theorem bytesIn_get {cs : List Value} : ∀ {l : List UInt8} {j : Nat} {v : Value}, bytesIn cs = some l → cs[j]? = some v → ∃ q, v = .int .u8 q ∧ l[j]? = some (UInt8.ofNat q.toNat) := by
  induction cs with
  | nil => intro l j v _ h; simp at h
  | cons x r ih =>
    intro l j v hl hj
    cases x with
    | int k n =>
      cases k <;> simp [bytesIn] at hl
      obtain ⟨l', h1, rfl⟩ := hl
      cases j with
      | zero => simp at hj; subst hj; exact ⟨n, rfl, by simp⟩
      | succ j => simpa using ih h1 (by simpa using hj)
    | _ => simp [bytesIn] at hl
theorem run_forIn_bytes {P : Program} {f : Emb} {L : Nat} (w : World) (g : Value → ByteArray → Sem (ForInStep ByteArray)) (hg : ∀ n s, (g (.int .u8 n) s).run P w = .ok (.yield (s.push (UInt8.ofNat n.toNat))) w)
    (cs : List Value) : ∀ (ds : List Value) (l : List UInt8) (s : ByteArray), cs.length = ds.length → (∀ i : Nat, VRel f L (cs.getD i Am.junk) (ds.getD i Am.junk)) → bytesIn cs = some l →
    (forIn ds s g).run P w = .ok ⟨s.data ++ l.toArray⟩ w := by
  induction cs with
  | nil =>
    intro ds l s hl hr h
    cases ds with
    | nil => simp [bytesIn] at h; subst h; simp
    | cons => simp at hl
  | cons v r ih =>
    intro ds l s hl hr h
    cases ds with
    | nil => simp at hl
    | cons d ds =>
      cases v with
      | int k n =>
        cases k <;> simp [bytesIn] at h
        obtain ⟨l', h1, rfl⟩ := h
        have h0 := (hr 0)
        simp only [List.getD_cons_zero] at h0
        cases h0.int_inv
        have := ih ds l' (s.push (UInt8.ofNat n.toNat)) (by simpa using hl) (fun i => by simpa using hr (i + 1)) h1
        simp only [List.forIn_cons, Sem.run_bind, hg, Result.andThen_ok]
        rw [this]
        congr 1
        apply ByteArray.ext
        simp [ByteArray.data_push]
      | _ => simp [bytesIn] at h
def aconvert (P : Program) (h : AH) (src dst : TypeId) (x : Value) : Option (Value × AH) :=
  match P.underlying src, P.underlying dst, x with
  | some _, some (.int k), .int _ n => some (.int k (k.wrap n), h)
  | some _, some .string, .string s => some (.string s, h)
  | some .string, some (.slice e), .string s => match P.underlying e with
    | some (.int .u8) => some (.slice (some ⟨h.length, 0, none⟩) s.size s.size, h ++ [.cells (bcells s) 1 true])
    | _ => none
  | some (.slice e), some .string, .slice none _ _ => match P.underlying e with
    | some (.int .u8) => some (.string .empty, h)
    | _ => none
  | some (.slice e), some .string, .slice (some ⟨b, o, none⟩) len cap => match P.underlying e with
    | some (.int .u8) => if len = 0 then some (.string .empty, h) else match h[b]? with
      | some (.cells c _ _) => if o + len ≤ c.size then (bytesIn (c.extract o (o + len)).toList).map fun l => (.string ⟨l.toArray⟩, h) else none
      | _ => none
    | _ => none
  | some (.slice e), some .string, .func (.yield 0) cs ks => match P.underlying e, fzN ks with
    | some (.int .u8), some n => if n ≤ cs.size then (bytesIn (cs.extract 0 n).toList).map fun l => (.string ⟨l.toArray⟩, h) else none
    | _, _ => none
  | some (.slice _), some (.slice e), .slice (some ⟨b, o, none⟩) len cap => match P.underlying e with
    | some (.int .u8) => if src = dst ∧ len ≠ 0 then match h[b]? with
      | some (.cells _ _ true) => some (.slice (some ⟨b, o, none⟩) len cap, h)
      | _ => none
      else none
    | _ => none
  | some (.pointer e), some .unsafePointer, .pointer (some ⟨b, o, none⟩) => match h[b]?, P.info? e with
    | some (.cells c _ _), some j => if o < c.size ∧ j.size ≠ 0 then some (.pointer (some ⟨b, o, none⟩), h) else none
    | _, _ => none
  | some .unsafePointer, some (.pointer u), .pointer (some ⟨b, o, none⟩) => match h[b]?, P.info? u with
    | some (.cells c es true), some j => if es = tagN + u ∧ o = 0 ∧ j.size ≠ 0 ∧ j.size ≤ c.size then some (.pointer (some ⟨b, o, none⟩), h) else none
    | _, _ => none
  | _, _, _ => none
theorem sameLayout_self (P : Program) (d : Nat) (t : TypeId) : sameLayout P (d + 1) t t = true := by
  unfold sameLayout; simp
theorem depth_succ (P : Program) : ∃ d, P.depth = d + 1 := ⟨2 * (P.types.size + Made.depth) + 1, rfl⟩
/-- a variable lies at the front of a row of its kind -/
theorem liesAt_front {P : Program} {u : TypeId} {n : Nat} (h : P.cellsOf u ≠ 0) (hn : 1 ≤ n) : liesAt P P.depth u n (0 + 0) u 1 = true := by
  obtain ⟨d, hd⟩ := depth_succ P
  have h1 : rowAt P (sameLayout P P.depth · u) P.depth u n (0 + 0) 1 = true := by
    rw [hd]
    unfold rowAt
    have h2 := sameLayout_self P d u
    simp [h, h2]
    left; omega
  have e : liesAt P P.depth u n (0 + 0) u 1 = liesAt P (d + 1) u n (0 + 0) u 1 := by rw [← hd]
  rw [e]
  unfold liesAt
  rw [h1]; rfl
/-- so many bytes lie in a row of them -/
theorem liesAt_row {P : Program} {u : TypeId} {n o m : Nat} (h : P.cellsOf u = 1) (hn : o + m ≤ n) : liesAt P P.depth u n o u m = true := by
  obtain ⟨d, hd⟩ := depth_succ P
  have h1 : rowAt P (sameLayout P P.depth · u) P.depth u n o m = true := by
    rw [hd]
    unfold rowAt
    have h2 := sameLayout_self P d u
    simp [h, h2, Nat.mod_one]
    left; omega
  have e : liesAt P P.depth u n o u m = liesAt P (d + 1) u n o u m := by rw [← hd]
  rw [e]
  unfold liesAt
  rw [h1]; rfl
theorem sound_convert {P : Program} {f : Emb} {h : AH} {w : World} (hs : Sim P f h w) {src dst : TypeId} {x x' : Value} (hx : VRel f h.length x x') {r : Value} {h1 : AH} (ha : aconvert P h src dst x = some (r, h1)) :
    ∃ f1 r' w1, (convert src dst x').run P w = .ok r' w1 ∧ Step P f h w f1 h1 w1 ∧ VRel f1 h1.length r r' := by
  unfold aconvert at ha
  split at ha
  · rename_i d k k0 n hu hv
    cases hx.int_inv
    cases ha
    exact ⟨f, _, w, by simp only [convert, Sem.run_bind, run_underlying hu, run_underlying hv, Result.andThen_ok, Conv.intToInt, Sem.run_pure], Step.refl hs, .int _ _⟩
  · rename_i d s hu hv
    cases hx.string_inv
    cases ha
    refine ⟨f, _, w, ?_, Step.refl hs, .string _⟩
    cases d <;> simp only [convert, Sem.run_bind, run_underlying hu, run_underlying hv, Result.andThen_ok, Sem.run_pure]
  · rename_i e s hu hv
    cases hx.string_inv
    split at ha
    · rename_i he
      cases ha
      obtain ⟨f1, r', w1, g1, g2, g3⟩ := sound_stringToBytes hs e s
      refine ⟨f1, r', w1, ?_, g2, by simpa using g3⟩
      simp only [convert, Sem.run_bind, run_underlying hu, run_underlying hv, run_underlying he, Result.andThen_ok, g1]
    · cases ha
  · rename_i e l c hu hv
    split at ha
    · rename_i he
      cases ha
      have hx' : x' = .slice none l c := plain_inv rfl hx
      subst hx'
      refine ⟨f, _, w, ?_, Step.refl hs, .string _⟩
      simp only [convert, Sem.run_bind, run_underlying hu, run_underlying hv, run_underlying he, Result.andThen_ok, Conv.bytesToString, Sem.run_pure]
    · cases ha
  · rename_i e b o len cap hu hv
    split at ha
    · rename_i he
      split at ha
      · rename_i h0
        subst h0
        cases ha
        have key : ∀ (a' : Addr) (c' : Nat), (convert src dst (.slice (some a') 0 c')).run P w = .ok (.string .empty) w := by
          intro a' c'
          simp only [convert, Sem.run_bind, run_underlying hu, run_underlying hv, run_underlying he, Result.andThen_ok, Conv.bytesToString, run_loadCells_zero]
          rfl
        rcases hx.slice_inv with ⟨c', rfl, _, _⟩ | ⟨_, _, a', rfl, _⟩
        · exact ⟨f, _, w, key _ _, Step.refl hs, .string _⟩
        · exact ⟨f, _, w, key _ _, Step.refl hs, .string _⟩
      · rename_i hnz
        split at ha
        · rename_i c es rw hb
          split at ha
          · rename_i hle
            simp only [Option.map_eq_some_iff, Prod.mk.injEq] at ha
            obtain ⟨l, hl, rfl, rfl⟩ := ha
            rcases hx.slice_inv with ⟨c', rfl, _, _⟩ | ⟨h0, _, _, _, _⟩
            · obtain ⟨ds, g1, g2, g3, g4⟩ := hs.loadCells hb o len hle
              refine ⟨f, .string ⟨l.toArray⟩, w, ?_, Step.refl hs, .string _⟩
              simp only [convert, Sem.run_bind, run_underlying hu, run_underlying hv, run_underlying he, Result.andThen_ok, Conv.bytesToString, g1]
              rw [← Array.forIn_toList]
              have hrel : ∀ i : Nat, VRel f h.length ((c.extract o (o + len)).toList.getD i Am.junk) (ds.toList.getD i Am.junk) := fun i => by
                have := g3 i
                rw [Array.getD_eq_getD_getElem?, Array.getD_eq_getD_getElem?, ← Array.getElem?_toList, ← Array.getElem?_toList] at this
                exact this
              rw [run_forIn_bytes (P := P) (f := f) (L := h.length) w _ ?hg (c.extract o (o + len)).toList ds.toList l .empty (by simp; omega) hrel hl]
              · simp only [Result.andThen_ok, Sem.run_pure]
                congr 2
                apply ByteArray.ext
                simp
              · intro n s
                rfl
            · exact absurd h0 hnz
          · cases ha
        · cases ha
    · cases ha
  · rename_i e cs ks hu hv
    obtain ⟨n0, rfl, hcz⟩ := hx.fz_inv
    rw [fzN_lit] at ha
    split at ha
    case h_2 => cases ha
    rename_i n he hn0
    cases hn0
    split at ha
    case isFalse => cases ha
    rename_i hle
    simp only [Option.map_eq_some_iff, Prod.mk.injEq] at ha
    obtain ⟨l, hl, rfl, rfl⟩ := ha
    rcases hcz with ⟨r0, o0, c0, ds0, rfl, hrom, hle2, hn, hxy, hone⟩ | ⟨rfl, rfl, a, c0, rfl⟩
    · obtain ⟨ds, g1, g2, g3, g4⟩ := (hs.heldRom hrom hle2 hxy hone).loadCells (P := P) 0 n0 (by omega)
      simp only [Nat.zero_add, Nat.add_zero] at g1 g3
      refine ⟨f, .string ⟨l.toArray⟩, w, ?_, Step.refl hs, .string _⟩
      simp only [convert, Sem.run_bind, run_underlying hu, run_underlying hv, run_underlying he, Result.andThen_ok, Conv.bytesToString, g1]
      rw [← Array.forIn_toList]
      have hrel : ∀ i : Nat, VRel f h.length ((cs.extract 0 n0).toList.getD i Am.junk) (ds.toList.getD i Am.junk) := fun i => by
        have := g3 i
        rw [Array.getD_eq_getD_getElem?, Array.getD_eq_getD_getElem?, ← Array.getElem?_toList, ← Array.getElem?_toList] at this
        exact this
      rw [run_forIn_bytes (P := P) (f := f) (L := h.length) w _ ?hg2 (cs.extract 0 n0).toList ds.toList l .empty (by simp; omega) hrel hl]
      · simp only [Result.andThen_ok, Sem.run_pure]
        congr 2
        apply ByteArray.ext
        simp
      · intro n s
        rfl
    · refine ⟨f, .string .empty, w, ?_, Step.refl hs, ?_⟩
      · simp only [convert, Sem.run_bind, run_underlying hu, run_underlying hv, run_underlying he, Result.andThen_ok, Conv.bytesToString, run_loadCells_zero]
        rfl
      · have : l = [] := by simpa [bytesIn] using hl.symm
        subst this
        exact .string _
  · rename_i e0 e b o len cap hu hv
    split at ha
    case h_2 => cases ha
    rename_i he
    split at ha
    case isFalse => cases ha
    rename_i hc
    obtain ⟨hsd, hl0⟩ := hc
    subst hsd
    split at ha
    case h_2 => cases ha
    rename_i c es hb
    simp only [Option.some.injEq, Prod.mk.injEq] at ha
    obtain ⟨rfl, rfl⟩ := ha
    rcases hx.slice_inv with ⟨c', rfl, hbL, hcap⟩ | ⟨h0, _, _, _, _⟩
    · obtain ⟨o', ho', hrel⟩ := hs.obj b _ hb rfl
      obtain ⟨cc, elem, fr, rfl, q2, q3, q4, q5, q6, q7⟩ := hrel
      have hlt : (f b).blk < w.heap.size := (Array.getElem?_eq_some_iff.1 ho').1
      have hsh : (markStringish ⟨(f b).blk, (f b).off + o, none⟩).run P w = .ok () (w.freeze ⟨(f b).blk, cc.size, none⟩ 1) := by
        have e1 : w.shape? (f b).blk = some (elem, cc.size) := by simp [World.shape?, ho']
        simp only [markStringish, shape, Sem.run_bind, Sem.run, Result.andThen_ok, e1, freeze]
      obtain ⟨fr2, hnf, hw1⟩ : ∃ fr2, NoFr fr2 cc.size ∧ (w.freeze ⟨(f b).blk, cc.size, none⟩ 1).heap[(f b).blk]? = some (.cells cc elem fr2) := by
        obtain ⟨lo, hi⟩ := fr
        have hn := (q5 rfl).2.nofr
        refine ⟨if lo == hi then (cc.size, cc.size + 1) else (min lo cc.size, max hi (cc.size + 1)), ?_, ?_⟩
        · by_cases e : lo = hi
          · rw [if_pos (by simpa using e)]; exact .inr (Nat.le_refl _)
          · rw [if_neg (by simpa using e)]
            rcases hn with hn | hn
            · exact absurd hn e
            · refine .inr ?_
              show cc.size ≤ min lo cc.size
              have : cc.size ≤ lo := hn
              omega
        simp only [World.freeze, Nat.one_ne_zero, if_false]
        rw [Array.getElem?_modify, if_pos rfl, ho']; rfl
      have st := Step.write (o1 := .cells c es true) (o1' := .cells cc elem fr2) (w1 := w.freeze ⟨(f b).blk, cc.size, none⟩ 1) hs hb rfl rfl ok_cells hw1
        ⟨cc, elem, fr2, rfl, q2, q3, q4, fun _ => ⟨(q5 rfl).1, hnf, (q5 rfl).2.tag⟩, q6, q7⟩ (fun r hr => by
          simp only [World.freeze, Nat.one_ne_zero, if_false]
          rw [Array.getElem?_modify, if_neg (fun e => hr e.symm)]) rfl rfl rfl (by simp [World.freeze])
      have hse : h.set b (.cells c es true) = h := by
        apply List.ext_getElem?
        intro i
        by_cases e : b = i
        · subst e
          rw [List.getElem?_set_self (List.getElem?_eq_some_iff.1 hb).1, hb]
        · rw [List.getElem?_set_ne e]
      rw [hse] at st
      refine ⟨f, .slice (some ⟨(f b).blk, (f b).off + o, none⟩) len c', _, ?_, st, ?_⟩
      · simp only [convert, Sem.run_bind, run_underlying hv, run_underlying he, Result.andThen_ok, beq_self_eq_true, hsh, Sem.run_pure]
      · exact .slice b o len cap c' _ _ (by simpa using hbL) rfl rfl hcap
    · exact absurd h0 hl0
  · rename_i e b o hu hv
    obtain ⟨rfl, hbL⟩ := hx.ptr_inv
    split at ha
    case h_2 => cases ha
    rename_i c es rw j hb hj
    split at ha
    case isFalse => cases ha
    rename_i hc
    cases ha
    obtain ⟨o', ho', cc, elem, fr, rfl, q2, q3, q4, q5, q6, q7⟩ := hs.obj b _ hb rfl
    refine ⟨f, .pointer (some ⟨(f b).blk, (f b).off + o, none⟩), w, ?_, Step.refl hs, .ptr b o _ _ hbL rfl rfl⟩
    exact Lib.run_to_unsafe (P := P) w ⟨(f b).blk, (f b).off + o, none⟩ hu hv hj hc.2 (e := elem) (cells := cc.size) (by simp [World.shape?, ho']) (by simp only; omega)
  · rename_i u b o hu hv
    obtain ⟨rfl, hbL⟩ := hx.ptr_inv
    split at ha
    case h_2 => cases ha
    rename_i c es j hb hj
    split at ha
    case isFalse => cases ha
    rename_i hc
    obtain ⟨rfl, rfl, hj0, hjc⟩ := hc
    cases ha
    obtain ⟨o', ho', cc, elem, fr, rfl, q2, q3, q4, q5, q6, q7⟩ := hs.obj b _ hb rfl
    obtain ⟨t1, t2, t3⟩ := (q5 rfl).2.tag (by omega)
    have hel : elem = u := (Nat.add_left_cancel t1).symm
    subst hel
    have hsz : P.cellsOf elem = j.size := by simp [Program.cellsOf, hj]
    refine ⟨f, .pointer (some ⟨(f b).blk, (f b).off + 0, none⟩), w, ?_, Step.refl hs, .ptr b 0 _ _ hbL rfl rfl⟩
    refine Lib.run_from_unsafe (P := P) w ⟨(f b).blk, (f b).off + 0, none⟩ hu hv hj (e := elem) (cells := cc.size) (by simp [World.shape?, ho']) ?_
    rw [t2, hsz]
    exact liesAt_front (by rw [hsz]; exact hj0) (Nat.div_pos (by omega) (by omega))
  · cases ha
end Go.Am

set_option linter.unusedVariables false
set_option linter.unusedSimpArgs false
/- Maps whose keys are rows of bools, numbers and strings. -/
namespace Go.Am
open Go
def sameKey (a b : Value) : Bool := Instr.sameBits 10000 a b
theorem lit_same {P : Program} {t : TypeId} {a b : Value} (ha : litCell P t a = true) (hb : litCell P t b = true) (m : Nat) : Instr.sameBits m a b = true ↔ a = b := by
  unfold litCell at ha hb
  cases hu : P.underlying t with
  | none => simp [hu] at ha
  | some d =>
    rw [hu] at ha hb
    cases d <;> cases a <;> simp at ha <;> cases b <;> simp at hb
    · simp [Instr.sameBits]
    · simp [Instr.sameBits]
    · rename_i x y
      simp only [Instr.sameBits, Value.string.injEq]
      constructor
      · intro h
        have : (x.data == y.data) = true := h
        exact ByteArray.ext (by simpa using this)
      · rintro rfl
        show (x.data == x.data) = true
        simp
theorem lits_same {P : Program} (m : Nat) : ∀ {ts : List TypeId} {xs ys : List Value}, litCells P ts xs = true → litCells P ts ys = true → ((xs.zip ys).all (fun (x, y) => Instr.sameBits m x y) = true ↔ xs = ys)
  | [], [], [], _, _ => by simp
  | t :: ts, x :: xs, y :: ys, h, k => by
    simp only [litCells, Bool.and_eq_true] at h k
    simp only [List.zip_cons_cons, List.all_cons, Bool.and_eq_true, List.cons.injEq]
    rw [lit_same h.1 k.1 m, lits_same m h.2 k.2]
  | [], _ :: _, _, h, _ => by simp [litCells] at h
  | [], [], _ :: _, _, h => by simp [litCells] at h
  | _ :: _, [], _, h, _ => by simp [litCells] at h
  | _ :: _, _ :: _, [], _, h => by simp [litCells] at h
theorem sameKey_iff {P : Program} {k : TypeId} {a b : Value} (ha : keyed P k a = true) (hb : keyed P k b = true) : sameKey a b = true ↔ a = b := by
  unfold keyed at ha hb
  cases hu : P.underlying k with
  | none => simp [hu] at ha
  | some d =>
    rw [hu] at ha hb
    have agg : ∀ {xs ys : Array Value} {ts : List TypeId}, litCells P ts xs.toList = true → litCells P ts ys.toList = true → (sameKey (.agg xs) (.agg ys) = true ↔ Value.agg xs = .agg ys) := by
      intro xs ys ts h1 h2
      have hsz : (xs.size == ys.size) = true := by
        have := litCells_length h1; have := litCells_length h2; simp at *; omega
      have e : sameKey (.agg xs) (.agg ys) = (xs.size == ys.size && (xs.toList.zip ys.toList).all fun (x, y) => Instr.sameBits 9999 x y) := rfl
      rw [e, hsz, Bool.true_and, lits_same 9999 h1 h2]
      constructor
      · intro h; congr 1; exact Array.ext' h
      · intro h; cases h; rfl
    have plain : litCell P k a = true → litCell P k b = true → (sameKey a b = true ↔ a = b) := fun h1 h2 => lit_same h1 h2 10000
    cases d with
    | struct fs =>
      cases a <;> simp at ha; cases b <;> simp at hb
      cases hf : flat P 8 k with
      | none => simp [hf] at ha
      | some ts => simp only [hf] at ha hb; exact agg ha hb
    | array n e =>
      cases a <;> simp at ha; cases b <;> simp at hb
      cases hf : flat P 8 k with
      | none => simp [hf] at ha
      | some ts => simp only [hf] at ha hb; exact agg ha hb
    | _ => exact plain ha hb
theorem litCell_plain {P : Program} {t : TypeId} {v : Value} (h : litCell P t v = true) : plain1 v = true := by
  unfold litCell at h
  cases hu : P.underlying t with
  | none => simp [hu] at h
  | some d => rw [hu] at h; cases d <;> cases v <;> simp at h <;> rfl
theorem litCells_plain {P : Program} : ∀ {ts : List TypeId} {vs : List Value}, litCells P ts vs = true → vs.all plain1 = true
  | [], [], _ => rfl
  | t :: ts, v :: vs, h => by
    simp only [litCells, Bool.and_eq_true] at h
    simp [litCell_plain h.1, litCells_plain h.2]
  | [], _ :: _, h => by simp [litCells] at h
  | _ :: _, [], h => by simp [litCells] at h
theorem keyed_plain {P : Program} {k : TypeId} {v : Value} (h : keyed P k v = true) : plainB v = true := by
  have one : plain1 v = true → plainB v = true := fun h => by cases v <;> simp_all [plain1, plainB]
  unfold keyed at h
  split at h
  · split at h
    · have := litCells_plain h; show Array.all _ plain1 = true; rw [← Array.all_toList]; exact this
    · cases h
  · split at h
    · have := litCells_plain h; show Array.all _ plain1 = true; rw [← Array.all_toList]; exact this
    · cases h
  · cases h
  · cases h
  · exact one (litCell_plain h)
  · cases h
/-- the first entry of a key, and its place -/
def findK (key : Value) : List MapEntry → Nat → Option (Nat × MapEntry)
  | [], _ => none
  | e :: es, i => if sameKey e.key key then some (i, e) else findK key es (i + 1)
theorem findK_none {P : Program} {k : TypeId} {key : Value} (hk : keyed P k key = true) : ∀ (es : List MapEntry) (i : Nat), (∀ e ∈ es, keyed P k e.key = true) → (findK key es i = none ↔ ∀ e ∈ es, e.key ≠ key) := by
  intro es
  induction es with
  | nil => intro i _; simp [findK]
  | cons e es ih =>
    intro i hall
    have he := hall e (List.mem_cons_self ..)
    unfold findK
    by_cases h : e.key = key
    · rw [if_pos ((sameKey_iff he hk).2 h)]
      simp [h]
    · rw [if_neg (fun x => h ((sameKey_iff he hk).1 x)), ih (i + 1) fun x hx => hall x (List.mem_cons_of_mem _ hx)]
      simp [h]
theorem findK_some {P : Program} {k : TypeId} {key : Value} (hk : keyed P k key = true) : ∀ (es : List MapEntry) (i : Nat) {j : Nat} {x : MapEntry}, (∀ e ∈ es, keyed P k e.key = true) → findK key es i = some (j, x) → i ≤ j ∧ es[j - i]? = some x ∧ x.key = key := by
  intro es
  induction es with
  | nil => intro i j x _ h; simp [findK] at h
  | cons e es ih =>
    intro i j x hall h
    have he := hall e (List.mem_cons_self ..)
    unfold findK at h
    split at h
    · rename_i hs
      simp only [Option.some.injEq, Prod.mk.injEq] at h
      obtain ⟨rfl, rfl⟩ := h
      exact ⟨Nat.le_refl _, by simp, (sameKey_iff he hk).1 hs⟩
    · obtain ⟨h1, h2, h3⟩ := ih (i + 1) (fun x hx => hall x (List.mem_cons_of_mem _ hx)) h
      refine ⟨by omega, ?_, h3⟩
      have : j - i = (j - (i + 1)) + 1 := by omega
      rw [this]
      simpa using h2
/-- what the world's map is, out of the abstract one -/
theorem Sim.mapRel {P : Program} {f : Emb} {h : AH} {w : World} (hs : Sim P f h w) {b : Nat} {k : TypeId} {es : Array MapEntry} {clock : Nat} (hb : h[b]? = some (.map k es clock)) :
    ∃ es' : Array MapEntry, w.heap[(f b).blk]? = some (.map es' clock) ∧ es.size = es'.size ∧ (∀ (i : Nat) (e : MapEntry), es[i]? = some e → ∃ e' : MapEntry, es'[i]? = some e' ∧ EntryRel f h.length e e') ∧
      MapOk P k es.toList clock ∧ es.toList.map (·.key) = es'.toList.map (·.key) ∧ es.toList.map (·.born) = es'.toList.map (·.born) := by
  obtain ⟨o', h1, es', rfl, h2, h3⟩ := hs.obj b _ hb rfl
  refine ⟨es', h1, h2, h3, hs.ok b _ hb, ?_, ?_⟩
  · apply List.ext_getElem (by simpa using h2)
    intro i g1 g2
    have hi : i < es.size := by simpa using g1
    obtain ⟨e', k1, k2, k3, k4⟩ := h3 i es[i] (by simp [hi])
    have hi' : i < es'.size := by omega
    rw [Array.getElem?_eq_getElem hi'] at k1
    cases k1
    simp [k2]
  · apply List.ext_getElem (by simpa using h2)
    intro i g1 g2
    have hi : i < es.size := by simpa using g1
    obtain ⟨e', k1, k2, k3, k4⟩ := h3 i es[i] (by simp [hi])
    have hi' : i < es'.size := by omega
    rw [Array.getElem?_eq_getElem hi'] at k1
    cases k1
    simp [k3]
theorem MapOk.keys' {P : Program} {k : TypeId} {es es' : List MapEntry} {clock : Nat} (m : MapOk P k es clock) (h : es.map (·.key) = es'.map (·.key)) : ∀ e ∈ es', keyed P k e.key = true := by
  intro e he
  have : e.key ∈ es.map (·.key) := by rw [h]; exact List.mem_map_of_mem he
  obtain ⟨x, hx, hx2⟩ := List.mem_map.1 this
  rw [← hx2]; exact m.keys x hx
/-- the world finds what is found -/
theorem find_run {P : Program} {k : TypeId} {es es' : List MapEntry} {clock : Nat} (hl : laidOutB P = true) (m : MapOk P k es clock) (hkeys : es.map (·.key) = es'.map (·.key)) {key : Value} (hk : keyed P k key = true) (w : World) :
    match findK key es 0 with
    | none => (Instr.findKey k key es').run P w = .ok none w
    | some (j, x) => ∃ e', es'[j]? = some e' ∧ e'.key = key ∧ es[j]? = some x ∧ x.key = key ∧ (Instr.findKey k key es').run P w = .ok (some (j, e'.val)) w := by
  have K := keyed_law hl m.ty
  obtain ⟨l, hkl⟩ := keyOf_keyed m.ty hk
  have hall := m.keys' hkeys
  have hlen : es.length = es'.length := by have := congrArg List.length hkeys; simpa using this
  have hat : ∀ (i : Nat) (e e' : MapEntry), es[i]? = some e → es'[i]? = some e' → e.key = e'.key := by
    intro i e e' h1 h2
    have := congrArg (·[i]?) hkeys
    simpa [List.getElem?_map, h1, h2] using this
  rcases K.find w hkl es' (fun e he => keyOf_keyed m.ty (hall e he)) with ⟨h1, h2⟩ | ⟨j, e', h1, h2, h3⟩
  · have hn : findK key es 0 = none := by
      rw [findK_none hk es 0 m.keys]
      intro e he e2
      obtain ⟨i, hi⟩ := List.mem_iff_getElem?.1 he
      have hlt : i < es'.length := by rw [← hlen]; exact (List.getElem?_eq_some_iff.1 hi).1
      exact h2 es'[i] (List.getElem_mem hlt) (by rw [← hat i e es'[i] hi (List.getElem?_eq_getElem hlt)]; exact e2)
    rw [hn]
    exact h1
  · have hlt : j < es.length := by rw [hlen]; exact (List.getElem?_eq_some_iff.1 h2).1
    have hje := List.getElem?_eq_getElem hlt
    have hkj : es[j].key = key := by rw [hat j _ e' hje h2]; exact h3
    cases hf : findK key es 0 with
    | none => exact absurd hkj ((findK_none hk es 0 m.keys).1 hf es[j] (List.getElem_mem hlt))
    | some p =>
      obtain ⟨j0, x⟩ := p
      obtain ⟨_, g1, g2⟩ := findK_some hk es 0 m.keys hf
      simp only [Nat.sub_zero] at g1
      have hj0 : j0 < es.length := (List.getElem?_eq_some_iff.1 g1).1
      have : j0 = j := by
        have hnd := m.apart
        have hge : es[j0] = x := by rw [List.getElem?_eq_getElem hj0] at g1; exact Option.some.inj g1
        rcases Nat.lt_trichotomy j0 j with h | h | h
        · exact absurd (by rw [List.getElem_map, List.getElem_map, hge, g2, hkj]) (List.pairwise_iff_getElem.1 hnd j0 j (by simpa using hj0) (by simpa using hlt) h)
        · exact h
        · exact absurd (by rw [List.getElem_map, List.getElem_map, hge, g2, hkj]) (List.pairwise_iff_getElem.1 hnd j j0 (by simpa using hlt) (by simpa using hj0) h)
      subst this
      exact ⟨e', h2, h3, g1, g2, h1⟩
def lookRes (ok : Bool) (v : Value) (b : Bool) : Value := if ok then .tuple #[v, .bool b] else v
/-- what a key holds -/
def lookK (ok : Bool) (z key : Value) (es : List MapEntry) : Value :=
  match findK key es 0 with
  | some (_, x) => lookRes ok x.val true
  | none => lookRes ok z false
theorem findK_append {key : Value} : ∀ (es es2 : List MapEntry) (i : Nat), findK key (es ++ es2) i = match findK key es i with | some p => some p | none => findK key es2 (i + es.length)
  | [], es2, i => by simp [findK]
  | e :: es, es2, i => by
    simp only [List.cons_append, findK, List.length_cons]
    split
    · rfl
    · rw [findK_append es es2 (i + 1)]
      rw [show i + 1 + es.length = i + (es.length + 1) by omega]
theorem findK_modify {P : Program} {k : TypeId} {key key2 : Value} (hk : keyed P k key = true) (hk2 : keyed P k key2 = true) {g : MapEntry → MapEntry} (hg : ∀ e, (g e).key = key) : ∀ (es : List MapEntry) (i : Nat) {j : Nat} {x : MapEntry}, (∀ e ∈ es, keyed P k e.key = true) → findK key es i = some (j, x) →
    findK key2 (es.modify (j - i) g) i = if sameKey key key2 = true then some (j, g x) else findK key2 es i := by
  intro es
  induction es with
  | nil => intro i j x _ h; simp [findK] at h
  | cons e es ih =>
    intro i j x hall h
    have he := hall e (List.mem_cons_self ..)
    unfold findK at h
    split at h
    · rename_i hs
      simp only [Option.some.injEq, Prod.mk.injEq] at h
      obtain ⟨rfl, rfl⟩ := h
      have hek := (sameKey_iff he hk).1 hs
      rw [Nat.sub_self, List.modify_zero_cons]
      unfold findK
      rw [hg]
      by_cases hy : sameKey key key2 = true
      · rw [if_pos hy, if_pos hy]
      · rw [if_neg hy, if_neg hy, hek, if_neg hy]
    · rename_i hs
      obtain ⟨h1, _, _⟩ := findK_some hk es (i + 1) (fun x hx => hall x (List.mem_cons_of_mem _ hx)) h
      have hj : j - i = (j - (i + 1)) + 1 := by omega
      rw [hj, List.modify_succ_cons]
      have := ih (i + 1) (fun x hx => hall x (List.mem_cons_of_mem _ hx)) h
      simp only [findK]
      rw [this]
      by_cases hy : sameKey key key2 = true
      · rw [if_pos hy]
        have := (sameKey_iff hk hk2).1 hy
        subst this
        rw [if_neg hs, if_pos hy]
      · simp only [hy]; rfl
/-- the zero of a type -/
def zeroOf (P : Program) (t : TypeId) : Option Value :=
  match P.info? t with
  | some i => match i.zero with
    | some z => if plainB z then some z else none
    | none => none
  | none => none
theorem zeroOf_run {P : Program} {t : TypeId} {z : Value} (h : zeroOf P t = some z) (w : World) : (zeroValue t).run P w = .ok z w ∧ plainB z = true := by
  unfold zeroOf at h
  split at h
  · rename_i i hi
    split at h
    · rename_i z0 hz
      split at h
      · rename_i hp; cases h; exact ⟨run_zeroValue hi hz w, hp⟩
      · cases h
    · cases h
  · cases h
def amLookup (P : Program) (h : AH) (t : TypeId) (m key : Value) (ok : Bool) : Option Value :=
  match P.underlying t with
  | some (.map k e) => match zeroOf P e with
    | some z => if keyed P k key = true then (match m with
      | .map none => if keyTy P k then some (lookRes ok z false) else none
      | .map (some b) => match h[b]? with
        | some (.map k' es _) => if k' = k then (match findK key es.toList 0 with
          | some (_, x) => some (lookRes ok x.val true)
          | none => some (lookRes ok z false)) else none
        | _ => none
      | _ => none) else none
    | none => none
  | _ => none
theorem lookRes_rel {f : Emb} {L : Nat} {v v' : Value} (h : VRel f L v v') (ok b : Bool) : VRel f L (lookRes ok v b) (if ok then .tuple #[v', .bool b] else v') := by
  unfold lookRes
  cases ok
  · exact h
  · refine .tuple _ _ rfl fun i => ?_
    match i with
    | 0 => exact h
    | 1 => exact .bool b
    | i + 2 => simp [Array.getD]; exact .junk _
theorem sound_lookup {P : Program} {f : Emb} {h : AH} {w : World} (hs : Sim P f h w) {t : TypeId} {m m' key key' : Value} (hm : VRel f h.length m m') (hkr : VRel f h.length key key') {ok : Bool} {r : Value} (ha : amLookup P h t m key ok = some r) :
    ∃ r', (Instr.lookup t m' key' ok).run P w = .ok r' w ∧ VRel f h.length r r' := by
  unfold amLookup at ha
  split at ha
  case h_2 => cases ha
  rename_i k e hu
  split at ha
  case h_2 => cases ha
  rename_i z hz
  obtain ⟨hz1, hz2⟩ := zeroOf_run hz w
  split at ha
  case isFalse => cases ha
  rename_i hk
  cases plain_inv (keyed_plain hk) hkr
  split at ha
  · split at ha
    case isFalse => cases ha
    rename_i hty
    cases ha
    have : m' = .map none := plain_inv rfl hm
    subst this
    obtain ⟨l, hkl⟩ := keyOf_keyed hty hk
    have K := keyed_law hs.laid hty
    have hf := K.find w hkl [] (by simp)
    have hf' : (Instr.findKey k key []).run P w = .ok none w := by
      rcases hf with ⟨h1, _⟩ | ⟨j, e0, _, h2, _⟩
      · exact h1
      · simp at h2
    refine ⟨_, ?_, lookRes_rel (plain_refl hz2) ok false⟩
    simp only [Instr.lookup, Sem.run_bind, run_underlying hu, Result.andThen_ok, Sem.run_pure, K.check w _ hkl, hf', hz1]
  · rename_i b
    obtain ⟨rfl, hbL⟩ := hm.map_inv
    split at ha
    case h_2 => cases ha
    rename_i k' es clock hb
    split at ha
    case isFalse => cases ha
    rename_i hkk
    subst hkk
    obtain ⟨es', g1, g2, g3, g4, g5, g6⟩ := hs.mapRel hb
    obtain ⟨l, hkl⟩ := keyOf_keyed g4.ty hk
    have K := keyed_law hs.laid g4.ty
    have hf := find_run hs.laid g4 g5 hk w
    split at ha
    · rename_i j x hx
      cases ha
      rw [hx] at hf
      obtain ⟨e', q1, q2, q3, q4, q5⟩ := hf
      have q3' : es[j]? = some x := by simpa using q3
      obtain ⟨e2, p1, p2, p3, p4⟩ := g3 j x q3'
      have : e2 = e' := by have q1' : es'[j]? = some e' := by simpa using q1
                           rw [q1'] at p1; cases p1; rfl
      subst this
      refine ⟨_, ?_, lookRes_rel p4 ok true⟩
      simp only [Instr.lookup, Sem.run_bind, run_underlying hu, Result.andThen_ok, Sem.run_pure, run_getObj_map g1, K.check w _ hkl, q5]
    · rename_i hx
      cases ha
      rw [hx] at hf
      refine ⟨_, ?_, lookRes_rel (plain_refl hz2) ok false⟩
      simp only [Instr.lookup, Sem.run_bind, run_underlying hu, Result.andThen_ok, Sem.run_pure, run_getObj_map g1, K.check w _ hkl, hf, hz1]
  · cases ha
end Go.Am

