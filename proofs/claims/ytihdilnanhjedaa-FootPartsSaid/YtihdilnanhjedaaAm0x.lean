import Derived.WalkKit
import Derived.ChangeKeysEq
import Derived.DeepKeys5
import Derived.Maps.Keyed
set_option linter.unusedVariables false
set_option linter.unusedSimpArgs false
/- Types whose values are rows of bools, numbers and strings. -/
namespace Go.Am
open Go

/-- A value that is not known any more: whatever stands there. -/
def junk : Value := .chan (some 0)

/-- the cells of a type, a type each -/
def flat (P : Program) : Nat → TypeId → Option (List TypeId)
  | 0, _ => none
  | m + 1, t =>
    match P.underlying t with
    | some .bool | some (.int _) | some .string | some (.slice _) => some [t]
    | some (.struct fs) => (fs.toList.foldlM (fun (acc : List TypeId) fld => if fld.offset = acc.length then (flat P m fld.type).bind fun l => if l.length = P.cellsOf fld.type then some (acc ++ l) else none else none) []).bind fun l => if l.length = P.cellsOf t then some l else none
    | some (.array k e) => (flat P m e).bind fun l => if l.length = P.cellsOf e ∧ P.cellsOf t = k * l.length then some ((List.replicate k l).flatten) else none
    | _ => none

/-- a bool, a number, a string of a type -/
def litCell (P : Program) (t : TypeId) (v : Value) : Bool :=
  match P.underlying t, v with
  | some .bool, .bool _ => true
  | some (.int q), .int q' n => q' == q && (Lit.int q n).wf
  | some .string, .string s => decide (s.size ≤ maxLen)
  | _, _ => false

/-- so are all of these -/
def litCells (P : Program) : List TypeId → List Value → Bool
  | [], [] => true
  | t :: ts, v :: vs => litCell P t v && litCells P ts vs
  | _, _ => false

theorem litCells_append {P : Program} : ∀ {ts ts2 : List TypeId} {vs vs2 : List Value}, ts.length = vs.length → (litCells P (ts ++ ts2) (vs ++ vs2) = true ↔ litCells P ts vs = true ∧ litCells P ts2 vs2 = true)
  | [], _, [], _, _ => by simp [litCells]
  | t :: ts, ts2, v :: vs, vs2, h => by
    simp only [List.cons_append, litCells, Bool.and_eq_true]
    rw [litCells_append (by simpa using h)]
    simp [and_assoc]
  | [], _, _ :: _, _, h => by simp at h
  | _ :: _, _, [], _, h => by simp at h

theorem litCells_length {P : Program} : ∀ {ts : List TypeId} {vs : List Value}, litCells P ts vs = true → vs.length = ts.length
  | [], [], _ => rfl
  | t :: ts, v :: vs, h => by
    simp only [litCells, Bool.and_eq_true] at h
    simp [litCells_length h.2]
  | [], _ :: _, h => by simp [litCells] at h
  | _ :: _, [], h => by simp [litCells] at h

theorem litCells_piece {P : Program} {ts : List TypeId} {vs : List Value} (h : litCells P ts vs = true) (o m : Nat) : litCells P ((ts.drop o).take m) ((vs.drop o).take m) = true := by
  have hl := litCells_length h
  have h1 : litCells P (ts.take o ++ ts.drop o) (vs.take o ++ vs.drop o) = true := by simpa using h
  rw [litCells_append (by simp [hl])] at h1
  have h2 : litCells P ((ts.drop o).take m ++ (ts.drop o).drop m) ((vs.drop o).take m ++ (vs.drop o).drop m) = true := by rw [List.take_append_drop, List.take_append_drop]; exact h1.2
  rw [litCells_append (by simp [hl])] at h2
  exact h2.1

/-- may a type be told by its cells? -/
def keyTy (P : Program) (k : TypeId) : Bool :=
  decide (k < P.types.size) && decide (P.types.size + 2 ≤ 10000) && P.keyType k && !(P.eqGuardType P.depth k)

/-- a value of such a type -/
def keyed (P : Program) (k : TypeId) (v : Value) : Bool :=
  match P.underlying k, v with
  | some (.struct _), .agg cs | some (.array _ _), .agg cs => match flat P 8 k with
    | some ts => litCells P ts cs.toList
    | none => false
  | some (.struct _), _ | some (.array _ _), _ => false
  | some _, v => litCell P k v
  | none, _ => false

theorem keyLits_flat {P : Program} : ∀ (m D : Nat) (t : TypeId) (ts : List TypeId) (cs : List Value), flat P m t = some ts → P.keyTypeAt D t = true → litCells P ts cs = true → ∃ L, P.keyLits D t cs = some L := by
  intro m
  induction m with
  | zero => intro D t ts cs h; simp [flat] at h
  | succ m ih =>
    intro D t ts cs hf hk hl
    cases D with
    | zero => simp [Program.keyTypeAt] at hk
    | succ D =>
      unfold flat at hf
      unfold Program.keyTypeAt at hk
      unfold Program.keyLits
      have one : ts = [t] → ∃ v, cs = [v] ∧ litCell P t v = true := by
        rintro rfl
        match cs, hl with
        | [v], hl => simp only [litCells, Bool.and_true] at hl; exact ⟨v, rfl, hl⟩
        | [], hl => simp [litCells] at hl
        | _ :: _ :: _, hl => simp [litCells] at hl
      cases hu : P.underlying t with
      | none => simp [hu] at hf
      | some d =>
        rw [hu] at hf hk
        cases d with
        | bool =>
          obtain ⟨v, rfl, hv⟩ := one (by simpa using hf.symm)
          simp only [litCell, hu] at hv
          cases v <;> simp at hv
          exact ⟨_, rfl⟩
        | int q =>
          obtain ⟨v, rfl, hv⟩ := one (by simpa using hf.symm)
          simp only [litCell, hu] at hv
          cases v <;> simp at hv
          exact ⟨_, by simp only [hv, and_self, if_true]; rfl⟩
        | string =>
          obtain ⟨v, rfl, hv⟩ := one (by simpa using hf.symm)
          simp only [litCell, hu] at hv
          cases v <;> simp at hv
          exact ⟨_, by simp only [hv, if_true]; rfl⟩
        | array k e =>
          simp only at hk
          rw [Option.bind_eq_some_iff] at hf
          obtain ⟨l, hle, hf⟩ := hf
          split at hf
          · rename_i hll
            cases hf
            obtain ⟨e1, e2⟩ := hll
            have hlen : cs.length = P.cellsOf t := by rw [litCells_length hl, e2]; simp
            simp only [hlen, if_true]
            have key : ∀ is : List Nat, (∀ i ∈ is, i < k) → ∃ LL, (is.mapM fun i => P.keyLits D e ((cs.drop (i * P.cellsOf e)).take (P.cellsOf e))) = some LL := by
              intro is
              induction is with
              | nil => intro _; exact ⟨[], rfl⟩
              | cons i is ih2 =>
                intro hi
                obtain ⟨LL, hLL⟩ := ih2 fun j hj => hi j (List.mem_cons_of_mem _ hj)
                have hik := hi i (List.mem_cons_self ..)
                have hpc := litCells_piece hl (i * l.length) l.length
                have hrep : ∀ (k i : Nat), i < k → (((List.replicate k l).flatten).drop (i * l.length)).take l.length = l := by
                  intro k
                  induction k with
                  | zero => intro i h; omega
                  | succ k ih3 =>
                    intro i h
                    rw [List.replicate_succ, List.flatten_cons]
                    cases i with
                    | zero => simp
                    | succ i =>
                      rw [Nat.add_mul, Nat.one_mul, Nat.add_comm, ← List.drop_drop, List.drop_left]
                      exact ih3 i (by omega)
                rw [hrep k i hik, e1] at hpc
                obtain ⟨L, hL⟩ := ih D e l _ hle hk hpc
                exact ⟨L :: LL, by rw [List.mapM_cons, hL, hLL]; rfl⟩
            obtain ⟨LL, hLL⟩ := key (List.range k) (fun i hi => List.mem_range.1 hi)
            exact ⟨_, by rw [hLL]; rfl⟩
          · cases hf
        | struct fs =>
          simp only [Bool.and_eq_true] at hk
          obtain ⟨⟨hall, _⟩, _⟩ := hk
          simp only [Option.bind_eq_some_iff] at hf
          obtain ⟨l, hl0, hf⟩ := hf
          split at hf
          · rename_i hll
            cases hf
            have hlen : cs.length = P.cellsOf t := by rw [litCells_length hl, hll]
            have hname : fs.all (fun x => x.name != "_") = true := by
              rw [Array.all_eq_true] at hall ⊢
              intro i hi
              have := hall i hi
              simp only [Bool.and_eq_true] at this
              exact this.1
            simp only [hlen, hname, and_self, if_true]
            have parts : ∀ (fl : List Field) (acc l : List TypeId), fl.foldlM (fun (acc : List TypeId) fld => if fld.offset = acc.length then (flat P m fld.type).bind fun l => if l.length = P.cellsOf fld.type then some (acc ++ l) else none else none) acc = some l →
                (∃ x, l = acc ++ x) ∧ ∀ f ∈ fl, ∃ lf, flat P m f.type = some lf ∧ lf.length = P.cellsOf f.type ∧ (l.drop f.offset).take (P.cellsOf f.type) = lf := by
              intro fl
              induction fl with
              | nil => intro acc l h1; simp at h1; subst h1; exact ⟨⟨[], by simp⟩, fun f hf => by simp at hf⟩
              | cons f fl ih2 =>
                intro acc l h1
                rw [List.foldlM_cons] at h1
                simp only [Option.bind_eq_bind, Option.bind_eq_some_iff] at h1
                obtain ⟨acc2, h3, h4⟩ := h1
                split at h3
                · rename_i ho
                  rw [Option.bind_eq_some_iff] at h3
                  obtain ⟨l2, h5, h6⟩ := h3
                  split at h6
                  · rename_i hc
                    cases h6
                    obtain ⟨⟨x, hx⟩, h7⟩ := ih2 _ _ h4
                    refine ⟨⟨l2 ++ x, by rw [hx]; simp⟩, fun g hg => ?_⟩
                    rcases List.mem_cons.1 hg with rfl | hg
                    · refine ⟨l2, h5, hc, ?_⟩
                      rw [hx, ho, List.append_assoc, List.drop_left, ← hc, List.take_left]
                    · exact h7 g hg
                  · cases h6
                · cases h3
            obtain ⟨_, hparts⟩ := parts fs.toList [] _ hl0
            have key : ∀ fl : List Field, (∀ f ∈ fl, f ∈ fs.toList) → ∃ LL, (fl.mapM fun f => P.keyLits D f.type ((cs.drop f.offset).take (P.cellsOf f.type))) = some LL := by
              intro fl
              induction fl with
              | nil => intro _; exact ⟨[], rfl⟩
              | cons f fl ih2 =>
                intro hi
                obtain ⟨LL, hLL⟩ := ih2 fun j hj => hi j (List.mem_cons_of_mem _ hj)
                have hmem := hi f (List.mem_cons_self ..)
                obtain ⟨lf, g1, g2, g3⟩ := hparts f hmem
                have hpc := litCells_piece hl f.offset (P.cellsOf f.type)
                rw [g3] at hpc
                have hkf : P.keyTypeAt D f.type = true := by
                  rw [Array.all_eq_true] at hall
                  obtain ⟨j, hj, rfl⟩ := List.getElem_of_mem hmem
                  have := hall j (by simpa using hj)
                  simp only [Bool.and_eq_true] at this
                  simpa using this.2
                obtain ⟨L, hL⟩ := ih D f.type lf _ g1 hkf hpc
                exact ⟨L :: LL, by rw [List.mapM_cons, hL, hLL]; rfl⟩
            obtain ⟨LL, hLL⟩ := key fs.toList (fun f hf => hf)
            exact ⟨_, by rw [hLL]; rfl⟩
          · cases hf
        | _ => simp at hk

theorem keyOf_keyed {P : Program} {k : TypeId} {v : Value} (hk : keyTy P k = true) (hv : keyed P k v = true) : ∃ l, keyOf P k v = some l := by
  simp only [keyTy, Bool.and_eq_true, decide_eq_true_eq] at hk
  obtain ⟨⟨⟨h1, h2⟩, h3⟩, h4⟩ := hk
  have agg : ∀ cs : Array Value, v = .agg cs → (match P.underlying k with | some (.array _ _) | some (.struct _) => true | _ => false) = true → (∃ ts, flat P 8 k = some ts ∧ litCells P ts cs.toList = true) → ∃ l, keyOf P k v = some l := by
    rintro cs rfl hwide ⟨ts, hf, hl⟩
    obtain ⟨L, hL⟩ := keyLits_flat 8 (P.types.size + 1) k ts cs.toList hf h3 hl
    have hform : (Value.agg cs).formed P k = true := by
      have hlen := litCells_length hl
      have hc : ts.length = P.cellsOf k := by
        unfold flat at hf
        cases hu : P.underlying k with
        | none => simp [hu] at hf
        | some d =>
          rw [hu] at hf hwide
          cases d <;> simp at hwide
          all_goals
            simp only [Option.bind_eq_some_iff] at hf
            obtain ⟨l, _, hf⟩ := hf
            split at hf <;> cases hf
            rename_i hx
            first | exact hx | (rw [hx.2]; simp)
      simp only [Value.formed]
      split at hwide
      · rename_i hu; rw [hu]; simp at hlen ⊢; omega
      · rename_i hu; rw [hu]; simp at hlen ⊢; omega
      · cases hwide
    unfold keyOf
    split
    · rw [if_pos (by rw [h3, hform]; rfl)]
      exact ⟨_, by rw [show (Value.agg cs).cells = cs from rfl, hL]; rfl⟩
    · rw [if_pos (by rw [h3, hform]; rfl)]
      exact ⟨_, by rw [show (Value.agg cs).cells = cs from rfl, hL]; rfl⟩
    · rename_i n1 n2
      split at hwide <;> simp_all
  have scalar : litCell P k v = true → ∃ l, keyOf P k v = some l := by
    intro hv
    unfold litCell at hv
    unfold keyOf mapKey
    cases hu : P.underlying k with
    | none => simp [hu] at hv
    | some d =>
      rw [hu] at hv
      cases d <;> cases v <;> simp at hv
      · exact ⟨_, rfl⟩
      · exact ⟨_, by simp only [hv, and_self, if_true]; rfl⟩
      · exact ⟨_, by simp only [hv, if_true]; rfl⟩
  unfold keyed at hv
  split at hv
  · rename_i fs cs hu
    split at hv
    · rename_i ts hf; exact agg cs rfl (by rw [hu]) ⟨ts, hf, hv⟩
    · cases hv
  · rename_i n e cs hu
    split at hv
    · rename_i ts hf; exact agg cs rfl (by rw [hu]) ⟨ts, hf, hv⟩
    · cases hv
  · cases hv
  · cases hv
  · exact scalar hv
  · cases hv

theorem keyed_law {P : Program} {k : TypeId} (hl : laidOutB P = true) (hk : keyTy P k = true) : Maps.Keyed P k := by
  simp only [keyTy, Bool.and_eq_true, decide_eq_true_eq] at hk
  obtain ⟨⟨⟨h1, h2⟩, h3⟩, h4⟩ := hk
  have h3' := h3
  unfold Program.keyType Program.keyTypeAt at h3'
  cases hu : P.underlying k with
  | none => simp [hu] at h3'
  | some d =>
    cases d with
    | bool => exact Maps.bool_keyed hu
    | int q => exact Maps.int_keyed hu
    | string => exact Maps.string_keyed hu
    | array n e => exact .of_law (deep_law_gate hl h2 h1 h3 (by rw [hu]))
    | struct fs => exact .of_law (deep_law_gate hl h2 h1 h3 (by rw [hu]))
    | _ => simp [hu] at h3'
end Go.Am
set_option linter.unusedVariables false
/- The abstract heap, and what it says of a world. -/
namespace Go.Am
open Go

structure Img where
  blk : Nat
  off : Nat
  n : Nat
  N : Nat
  es : Nat

/-- where blocks lie, and what is known of memory that nobody writes any more -/
structure Emb where
  img : Nat → Img
  rom : Nat → Option (Array Value)

instance : CoeFun Emb (fun _ => Nat → Img) := ⟨Emb.img⟩

def Emb.Agree (L : Nat) (f f' : Emb) : Prop := (∀ b, b < L → f' b = f b) ∧ ∀ r ds, f.rom r = some ds → f'.rom r = some ds
theorem Emb.Agree.refl (L : Nat) (f : Emb) : Emb.Agree L f f := ⟨fun _ _ => rfl, fun _ _ h => h⟩
theorem Emb.Agree.trans {L L' : Nat} {f f1 f2 : Emb} (h : Emb.Agree L f f1) (k : Emb.Agree L' f1 f2) (hl : L ≤ L') : Emb.Agree L f f2 :=
  ⟨fun b hb => (k.1 b (Nat.lt_of_lt_of_le hb hl)).trans (h.1 b hb), fun r ds e => k.2 r ds (h.2 r ds e)⟩

/-- a slice that nobody writes any more: its cells, its length -/
def fz (cs : Array Value) (n : Nat) : Value := .func (.yield 0) cs #[.int .i64 n]
/-- a pointer into such -/
def fp (cs : Array Value) (o : Nat) : Value := .func (.yield 1) cs #[.int .i64 o]

/-- the number beside a row's cells -/
def fzN (ks : Array Value) : Option Nat :=
  match ks.toList with
  | [.int .i64 k] => if 0 ≤ k then some k.toNat else none
  | _ => none
theorem fzN_lit (n : Nat) : fzN #[.int .i64 n] = some n := by simp only [fzN]; rw [if_pos (by omega)]; rfl

/-- rows whose kind is known bear it beside their cells' size, which is 1 -/
def tagN : Nat := 1099511627776
def szOf (es : Nat) : Nat := if es < tagN then es else 1
theorem szOf_lt {es : Nat} (h : es < tagN) : szOf es = es := if_pos h
theorem szOf_tag (t : Nat) : szOf (tagN + t) = 1 := if_neg (by omega)
def CapRel (I : Img) (o c c' : Nat) : Prop :=
  c' = c ∨ (szOf I.es ≠ 0 ∧ o + c * szOf I.es = I.n ∧ I.off + o + c' * szOf I.es = I.N ∧ c ≤ c')

theorem CapRel.le {I : Img} {o c c' : Nat} (h : CapRel I o c c') : c ≤ c' := by
  rcases h with rfl | ⟨_, _, _, h⟩
  · exact Nat.le_refl _
  · exact h

def Fn.plain : Fn → Bool
  | .func _ => true
  | _ => false

inductive VRel (f : Emb) (L : Nat) : Value → Value → Prop
  | junk (v : Value) : VRel f L junk v
  | bool (b : Bool) : VRel f L (.bool b) (.bool b)
  | int (k : IntKind) (n : Int) : VRel f L (.int k n) (.int k n)
  | string (s : ByteArray) : VRel f L (.string s) (.string s)
  | nilFunc : VRel f L .nilFunc .nilFunc
  | nilIface : VRel f L .nilIface .nilIface
  | nilPtr : VRel f L (.pointer none) (.pointer none)
  | ptr (b o r o' : Nat) (hb : b < L) (hr : r = (f b).blk) (ho : o' = (f b).off + o) : VRel f L (.pointer (some ⟨b, o, none⟩)) (.pointer (some ⟨r, o', none⟩))
  | nilMap : VRel f L (.map none) (.map none)
  | map (b r : Nat) (hb : b < L) (hr : r = (f b).blk) : VRel f L (.map (some b)) (.map (some r))
  | nilSlice (l c : Nat) : VRel f L (.slice none l c) (.slice none l c)
  | slice (b o l c c' r o' : Nat) (hb : b < L) (hr : r = (f b).blk) (ho : o' = (f b).off + o) (hc : CapRel (f b) o c c') :
      VRel f L (.slice (some ⟨b, o, none⟩) l c) (.slice (some ⟨r, o', none⟩) l c')
  | slice0 (a a' : Addr) (hb : a.block < L) : VRel f L (.slice (some a) 0 0) (.slice (some a') 0 0)
  | func (fn : Fn) (xs ys cs ds : Array Value) (hfn : Fn.plain fn = true) (hx : xs.size = ys.size) (hxy : ∀ i : Nat, VRel f L (xs.getD i junk) (ys.getD i junk))
      (hc : cs.size = ds.size) (hcd : ∀ i : Nat, VRel f L (cs.getD i junk) (ds.getD i junk)) : VRel f L (.func fn xs cs) (.func fn ys ds)
  | iface (t : TypeId) (v v' : Value) (hv : VRel f L v v') : VRel f L (.iface t v) (.iface t v')
  | agg (xs ys : Array Value) (hx : xs.size = ys.size) (hxy : ∀ i : Nat, VRel f L (xs.getD i junk) (ys.getD i junk)) (hone : ∀ i : Nat, (ys.getD i junk).oneCell' = true) :
      VRel f L (.agg xs) (.agg ys)
  | tuple (xs ys : Array Value) (hx : xs.size = ys.size) (hxy : ∀ i : Nat, VRel f L (xs.getD i junk) (ys.getD i junk)) : VRel f L (.tuple xs) (.tuple ys)
  | fz (cs : Array Value) (n r o c : Nat) (ds : Array Value) (hrom : f.rom r = some ds) (hle : o + cs.size ≤ ds.size) (hn : n ≤ c)
      (hxy : ∀ i : Nat, VRel f L (cs.getD i junk) (if i < cs.size then ds.getD (o + i) junk else junk)) (hone : ∀ i : Nat, i < cs.size → (ds.getD (o + i) junk).oneCell' = true) :
      VRel f L (.func (.yield 0) cs #[.int .i64 n]) (.slice (some ⟨r, o, none⟩) n c)
  | fz0 (a : Addr) (c : Nat) : VRel f L (.func (.yield 0) #[] #[.int .i64 (0 : Nat)]) (.slice (some a) 0 c)
  | bnil : VRel f L (.func (.yield 2) #[] #[]) (.slice none 0 0)
  | fp (cs : Array Value) (k r o o' : Nat) (ds : Array Value) (hrom : f.rom r = some ds) (hle : o + cs.size ≤ ds.size) (ho : o' = o + k)
      (hxy : ∀ i : Nat, VRel f L (cs.getD i junk) (if i < cs.size then ds.getD (o + i) junk else junk)) (hone : ∀ i : Nat, i < cs.size → (ds.getD (o + i) junk).oneCell' = true) :
      VRel f L (.func (.yield 1) cs #[.int .i64 k]) (.pointer (some ⟨r, o', none⟩))

/-- rows of values -/
def ARel (f : Emb) (L : Nat) (xs ys : Array Value) : Prop := xs.size = ys.size ∧ ∀ i : Nat, VRel f L (xs.getD i junk) (ys.getD i junk)

theorem VRel.mono {f f' : Emb} {L L' : Nat} {v v' : Value} (h : VRel f L v v') (hL : L ≤ L') (hf : Emb.Agree L f f') : VRel f' L' v v' := by
  induction h with
  | junk v => exact .junk v
  | bool b => exact .bool b
  | int k n => exact .int k n
  | string s => exact .string s
  | nilFunc => exact .nilFunc
  | nilIface => exact .nilIface
  | nilPtr => exact .nilPtr
  | ptr b o r o' hb hr ho => exact .ptr b o r o' (by omega) (by rw [hf.1 b hb]; exact hr) (by rw [hf.1 b hb]; exact ho)
  | nilMap => exact .nilMap
  | map b r hb hr => exact .map b r (by omega) (by rw [hf.1 b hb]; exact hr)
  | nilSlice l c => exact .nilSlice l c
  | slice b o l c c' r o' hb hr ho hc => exact .slice b o l c c' r o' (by omega) (by rw [hf.1 b hb]; exact hr) (by rw [hf.1 b hb]; exact ho) (by rw [hf.1 b hb]; exact hc)
  | slice0 a a' hb => exact .slice0 a a' (by omega)
  | func fn xs ys cs ds hfn hx hxy hc hcd ih1 ih2 => exact .func fn xs ys cs ds hfn hx ih1 hc ih2
  | iface t v v' hv ih => exact .iface t v v' ih
  | agg xs ys hx hxy hone ih => exact .agg xs ys hx ih hone
  | tuple xs ys hx hxy ih => exact .tuple xs ys hx ih
  | fz cs n r o c ds hrom hle hn hxy hone ih => exact .fz cs n r o c ds (hf.2 _ _ hrom) hle hn ih hone
  | fz0 a c => exact .fz0 a c
  | bnil => exact .bnil
  | fp cs k r o o' ds hrom hle ho hxy hone ih => exact .fp cs k r o o' ds (hf.2 _ _ hrom) hle ho ih hone

theorem ARel.mono {f f' : Emb} {L L' : Nat} {xs ys : Array Value} (h : ARel f L xs ys) (hL : L ≤ L') (hf : Emb.Agree L f f') : ARel f' L' xs ys :=
  ⟨h.1, fun i => (h.2 i).mono hL hf⟩

theorem ARel.set {f : Emb} {L : Nat} {xs ys : Array Value} (h : ARel f L xs ys) (d : Nat) {v v' : Value} (hv : VRel f L v v') :
    ARel f L (xs.setIfInBounds d v) (ys.setIfInBounds d v') := by
  refine ⟨by simpa using h.1, fun i => ?_⟩
  have h1 := h.1
  by_cases hd : d = i
  · subst hd
    by_cases hlt : d < xs.size
    · have hlt' : d < ys.size := by omega
      simp [hlt, hlt', Array.getD]
      exact hv
    · have hlt' : ¬ d < ys.size := by omega
      simp [Array.getD, hlt, hlt']
      exact .junk _
  · have := h.2 i
    simp only [Array.getD_eq_getD_getElem?, Array.getElem?_setIfInBounds_ne hd] at this ⊢
    exact this

/-- The objects of the abstract heap. -/
inductive AObj where
  | dead
  | cells (c : Array Value) (es : Nat) (rw : Bool)
  | map (k : TypeId) (es : Array MapEntry) (clock : Nat)
  | miter (m : Option Nat) (since : Nat) (seen : Array Nat) (stepped : Nat)

def AObj.rw : AObj → Bool
  | .dead => false
  | .cells _ _ r => r
  | .map _ _ _ => true
  | .miter .. => true

def AObj.alive : AObj → Bool
  | .dead => false
  | _ => true

abbrev AH := List AObj

/-- what holds of a map: its keys are of its kind, no two are the same, each entry has its own number -/
structure MapOk (P : Program) (k : TypeId) (es : List MapEntry) (clock : Nat) : Prop where
  ty : keyTy P k = true
  keys : ∀ e ∈ es, keyed P k e.key = true
  apart : (es.map (·.key)).Nodup
  old : ∀ e ∈ es, e.born < clock
  born : (es.map (·.born)).Nodup

def AObj.ok (P : Program) : AObj → Prop
  | .map k es clock => MapOk P k es.toList clock
  | _ => True
theorem ok_cells {P : Program} {c : Array Value} {es : Nat} {rw : Bool} : (AObj.cells c es rw).ok P := trivial

def EntryRel (f : Emb) (L : Nat) (e e' : MapEntry) : Prop := e'.key = e.key ∧ e'.born = e.born ∧ VRel f L e.val e'.val

/-- nothing of a row is frozen -/
def NoFr (fr : Nat × Nat) (n : Nat) : Prop := fr.1 = fr.2 ∨ n ≤ fr.1
theorem NoFr.at {fr : Nat × Nat} {n : Nat} (h : NoFr fr n) (i : Nat) (hi : i < n) : (fr.1 ≤ i && i < fr.2) = false := by
  rcases h with h | h <;> simp <;> omega
theorem NoFr.zero (n : Nat) : NoFr (0, 0) n := .inl rfl
structure RowOk (fr : Nat × Nat) (n es elem off N : Nat) : Prop where
  nofr : NoFr fr n
  tag : tagN ≤ es → es = tagN + elem ∧ off = 0 ∧ N = n
theorem RowOk.at {fr : Nat × Nat} {n es elem off N : Nat} (h : RowOk fr n es elem off N) (i : Nat) (hi : i < n) : (fr.1 ≤ i && i < fr.2) = false := h.nofr.at i hi
def ORel (f : Emb) (L : Nat) (I : Img) : AObj → Obj → Prop
  | .dead, _ => True
  | .cells c es rw, o' => ∃ c' elem fr, o' = .cells c' elem fr ∧ c.size = I.n ∧ es = I.es ∧ I.off + I.n ≤ I.N ∧ (rw = true → I.N ≤ c'.size ∧ RowOk fr c'.size es elem I.off I.N) ∧ I.off + I.n ≤ c'.size ∧
      ∀ i : Nat, i < c.size → VRel f L (c.getD i Am.junk) (c'.getD (I.off + i) Am.junk) ∧ (c'.getD (I.off + i) Am.junk).oneCell' = true
  | .map k es clock, o' => ∃ es', o' = .map es' clock ∧ es.size = es'.size ∧ ∀ (i : Nat) (e : MapEntry), es[i]? = some e → ∃ e' : MapEntry, es'[i]? = some e' ∧ EntryRel f L e e'
  | .miter m since seen stepped, o' => I.off = 0 ∧ ∃ m', o' = .mapIter m' since seen stepped ∧ (match m, m' with | none, none => True | some b, some r => b < L ∧ r = (f b).blk | _, _ => False)

theorem EntryRel.mono {f f' : Emb} {L L' : Nat} {e e' : MapEntry} (h : EntryRel f L e e') (hL : L ≤ L') (hf : Emb.Agree L f f') : EntryRel f' L' e e' :=
  ⟨h.1, h.2.1, h.2.2.mono hL hf⟩

theorem ORel.mono {f f' : Emb} {L L' : Nat} {I : Img} {o : AObj} {o' : Obj} (h : ORel f L I o o') (hL : L ≤ L') (hf : Emb.Agree L f f') : ORel f' L' I o o' := by
  cases o with
  | dead => simp [ORel]
  | cells c es rw =>
    obtain ⟨c', elem, fr, h1, h2, h3, h4, h5, h6, h7⟩ := h
    exact ⟨c', elem, fr, h1, h2, h3, h4, h5, h6, fun i hi => ⟨(h7 i hi).1.mono hL hf, (h7 i hi).2⟩⟩
  | map k es clock =>
    obtain ⟨es', h1, h2, h3⟩ := h
    exact ⟨es', h1, h2, fun i e he => let ⟨e', h4, h5⟩ := h3 i e he; ⟨e', h4, h5.mono hL hf⟩⟩
  | miter m since seen stepped =>
    obtain ⟨h0, m', h1, h2⟩ := h
    refine ⟨h0, m', h1, ?_⟩
    cases m <;> cases m' <;> simp only at h2 ⊢
    obtain ⟨h2, h3⟩ := h2
    exact ⟨by omega, by rw [hf.1 _ h2]; exact h3⟩

/-- The world holds what the abstract heap says. -/
structure Sim (P : Program) (f : Emb) (h : AH) (w : World) : Prop where
  obj : ∀ (b : Nat) (o : AObj), h[b]? = some o → o.alive = true → ∃ o', w.heap[(f b).blk]? = some o' ∧ ORel f h.length (f b) o o'
  sep : ∀ (b b' : Nat) (o o' : AObj), h[b]? = some o → h[b']? = some o' → o.alive = true → o'.alive = true → o.rw = true → b ≠ b' → (f b).blk ≠ (f b').blk
  glob : ∀ g, g < P.globals.size → (f g).blk = g ∧ (f g).off = 0
  size : P.globals.size ≤ h.length
  rom : ∀ r ds, f.rom r = some ds → (∃ elem fr, w.heap[r]? = some (.cells ds elem fr)) ∧ ∀ b o, h[b]? = some o → o.rw = true → (f b).blk ≠ r
  laid : laidOutB P = true
  ok : ∀ (b : Nat) (o : AObj), h[b]? = some o → o.ok P

/-- What a call leaves: only what the heap marks as its own may have turned. -/
structure Keep (f : Emb) (h : AH) (w w' : World) : Prop where
  os : w'.os = w.os
  tape : w'.tape = w.tape
  output : w'.output = w.output
  size : w.heap.size ≤ w'.heap.size
  block : ∀ r, r < w.heap.size → (∀ b o, h[b]? = some o → o.rw = true → (f b).blk ≠ r) → w'.heap[r]? = w.heap[r]?
  drawn : w.drawn ≤ w'.drawn

theorem Keep.refl (f : Emb) (h : AH) (w : World) : Keep f h w w := ⟨rfl, rfl, rfl, Nat.le_refl _, fun _ _ _ => rfl, Nat.le_refl _⟩

/-- what a loop over a function leaves behind among the deferred calls: a block of its own, with nothing in it -/
def Mark (f : Emb) (h : AH) (w0 w : World) (d : Deferred) : Prop :=
  ∃ D, d = { target := .collected D, args := #[] } ∧ w0.heap.size ≤ D ∧ w.heap[D]? = some (.deferred (some [])) ∧ ∀ b o, h[b]? = some o → o.rw = true → (f b).blk ≠ D
structure Marks (f : Emb) (h : AH) (w0 w : World) (ds : List Deferred) : Prop where
  each : ∀ d ∈ ds, Mark f h w0 w d
  apart : ds.Nodup
theorem Marks.nil {f : Emb} {h : AH} {w0 w : World} : Marks f h w0 w [] := ⟨fun d hd => by simp at hd, List.nodup_nil⟩
theorem Marks.of {f f1 : Emb} {h h1 : AH} {w0 w w1 : World} {ds : List Deferred} (m : Marks f h w0 w ds) (hw : ∀ D : Nat, w.heap[D]? = some (.deferred (some [])) → (∀ b o, h[b]? = some o → o.rw = true → (f b).blk ≠ D) → w1.heap[D]? = some (.deferred (some [])))
    (ho : ∀ b o, h1[b]? = some o → o.rw = true → w.heap.size ≤ (f1 b).blk ∨ ∃ b0 o0, h[b0]? = some o0 ∧ o0.rw = true ∧ (f b0).blk = (f1 b).blk) : Marks f1 h1 w0 w1 ds :=
  ⟨fun d hd => by
    obtain ⟨D, h1, h2, h3, h4⟩ := m.each d hd
    refine ⟨D, h1, h2, hw D h3 h4, fun b o hb hr e => ?_⟩
    have hlt : D < w.heap.size := (Array.getElem?_eq_some_iff.1 h3).1
    rcases ho b o hb hr with h5 | ⟨b0, o0, g1, g2, g3⟩
    · omega
    · exact h4 b0 o0 g1 g2 (g3.trans e), m.apart⟩
/-- nothing turns but what is said of the heap -/
theorem Marks.ren {f f1 : Emb} {h h1 : AH} {w0 w : World} {ds : List Deferred} (m : Marks f h w0 w ds) (ho : ∀ b o, h1[b]? = some o → o.rw = true → ∃ b0 o0, h[b0]? = some o0 ∧ o0.rw = true ∧ (f b0).blk = (f1 b).blk) : Marks f1 h1 w0 w ds :=
  m.of (fun _ h _ => h) fun b o hb hr => .inr (ho b o hb hr)

/-- The state of an activation: the frame, the heap, what it may write. -/
structure Good (P : Program) (f0 : Emb) (h0 : AH) (w0 : World) (f : Emb) (a : Array Value) (h : AH) (a' : Act) (w : World) : Prop where
  sim : Sim P f h w
  tm : ARel f h.length a a'.tmps
  df : Marks f h w0 w a'.defers
  keep : Keep f0 h0 w0 w
  own : ∀ b o, h[b]? = some o → o.rw = true → w0.heap.size ≤ (f b).blk ∨ ∃ b0 o0, h0[b0]? = some o0 ∧ o0.rw = true ∧ (f0 b0).blk = (f b).blk
  agree : Emb.Agree h0.length f0 f
  len : h0.length ≤ h.length

/-- One step of an activation. -/
structure Step (P : Program) (f : Emb) (h : AH) (w : World) (f1 : Emb) (h1 : AH) (w1 : World) : Prop where
  sim : Sim P f1 h1 w1
  agree : Emb.Agree h.length f f1
  len : h.length ≤ h1.length
  keep : Keep f h w w1
  own : ∀ b o, h1[b]? = some o → o.rw = true → w.heap.size ≤ (f1 b).blk ∨ ∃ b0 o0, h[b0]? = some o0 ∧ o0.rw = true ∧ (f b0).blk = (f1 b).blk

theorem Step.refl {P : Program} {f : Emb} {h : AH} {w : World} (hs : Sim P f h w) : Step P f h w f h w :=
  ⟨hs, .refl _ _, Nat.le_refl _, Keep.refl _ _ _, fun b o hb ho => .inr ⟨b, o, hb, ho, rfl⟩⟩

theorem Good.step {P : Program} {f0 : Emb} {h0 : AH} {w0 : World} {f : Emb} {a : Array Value} {h : AH} {a' : Act} {w : World} {f1 : Emb} {h1 : AH} {w1 : World}
    (g : Good P f0 h0 w0 f a h a' w) (s : Step P f h w f1 h1 w1) {b : Array Value} {b' : Act} (hb : ARel f1 h1.length b b'.tmps) (hd : b'.defers = a'.defers) :
    Good P f0 h0 w0 f1 b h1 b' w1 := by
  refine ⟨s.sim, hb, hd ▸ g.df.of (fun D hD hno => (s.keep.block D (Array.getElem?_eq_some_iff.1 hD).1 hno).trans hD) s.own, ?_, ?_, ?_, Nat.le_trans g.len s.len⟩
  · refine ⟨s.keep.os.trans g.keep.os, s.keep.tape.trans g.keep.tape, s.keep.output.trans g.keep.output, Nat.le_trans g.keep.size s.keep.size, fun r hr hno => ?_, Nat.le_trans g.keep.drawn s.keep.drawn⟩
    have h1 := g.keep.block r hr hno
    have h2 := s.keep.block r (Nat.lt_of_lt_of_le hr g.keep.size) (fun b o hb ho e => by
      rcases g.own b o hb ho with hge | ⟨b0, o0, hb0, ho0, he⟩
      · omega
      · exact hno b0 o0 hb0 ho0 (he.trans e))
    exact h2.trans h1
  · intro b o hb ho
    rcases s.own b o hb ho with hge | ⟨b0, o0, hb0, ho0, he⟩
    · exact .inl (Nat.le_trans g.keep.size hge)
    · rcases g.own b0 o0 hb0 ho0 with h1 | ⟨b1, o1, h2, h3, h4⟩
      · exact .inl (by omega)
      · exact .inr ⟨b1, o1, h2, h3, h4.trans he⟩
  · exact g.agree.trans s.agree g.len

theorem getD_append_lt {α : Type} (h : List α) (t : List α) (b : Nat) (hb : b < h.length) : (h ++ t)[b]? = h[b]? := by
  rw [List.getElem?_append_left hb]

/-- where a new block lies -/
def upd (f : Emb) (L : Nat) (I : Img) : Emb := ⟨fun b => if b = L then I else f b, f.rom⟩
theorem upd_eq (f : Emb) (L : Nat) (I : Img) : upd f L I L = I := by simp [upd]
theorem upd_lt (f : Emb) (L : Nat) (I : Img) (b : Nat) (h : b < L) : upd f L I b = f b := by simp only [upd]; rw [if_neg (by omega)]
theorem upd_agree (f : Emb) (L : Nat) (I : Img) : Emb.Agree L f (upd f L I) := ⟨fun b hb => upd_lt f L I b hb, fun _ _ h => h⟩

/-- A new block. -/
theorem Step.alloc {P : Program} {f : Emb} {h : AH} {w : World} (hs : Sim P f h w) (o : AObj) (o' : Obj) (I : Img) (hI : I.blk = w.heap.size)
    (ho : ORel f h.length I o o') (hok : o.ok P := by exact trivial) : Step P f h w (upd f h.length I) (h ++ [o]) (w.alloc o') := by
  have hlt : ∀ (b : Nat) (x : AObj), h[b]? = some x → b < h.length := fun b x hb => (List.getElem?_eq_some_iff.1 hb).1
  have hag : ∀ b, b < h.length → upd f h.length I b = f b := fun b hb => upd_lt _ _ _ _ hb
  have hagr := upd_agree f h.length I
  have hcase : ∀ (b : Nat) (x : AObj), (h ++ [o])[b]? = some x → (b < h.length ∧ h[b]? = some x) ∨ (b = h.length ∧ x = o) := by
    intro b x hb
    by_cases hl : b < h.length
    · exact .inl ⟨hl, by rw [List.getElem?_append_left hl] at hb; exact hb⟩
    · rw [List.getElem?_append_right (by omega)] at hb
      by_cases he : b = h.length
      · subst he; simp at hb; exact .inr ⟨rfl, hb.symm⟩
      · exfalso
        have : b - h.length ≠ 0 := by omega
        obtain ⟨k, hk⟩ := Nat.exists_eq_succ_of_ne_zero this
        rw [hk] at hb
        simp at hb
  refine ⟨⟨?_, ?_, ?_, ?_, ?_, hs.laid, fun b x hb => (hcase b x hb).elim (fun ⟨_, h1⟩ => hs.ok b x h1) (fun ⟨_, e⟩ => e ▸ hok)⟩, hagr, by simp, ?_, ?_⟩
  · intro b x hb ha
    rcases hcase b x hb with ⟨hl, hb'⟩ | ⟨rfl, rfl⟩
    · obtain ⟨y, hy, hr⟩ := hs.obj b x hb' ha
      have hbl : (f b).blk < w.heap.size := (Array.getElem?_eq_some_iff.1 hy).1
      refine ⟨y, ?_, ?_⟩
      · rw [hag b hl]
        show (w.heap.push o')[(f b).blk]? = _
        rw [Array.getElem?_push, if_neg (by omega)]
        exact hy
      · rw [hag b hl]
        exact hr.mono (by simp) hagr
    · refine ⟨o', ?_, ?_⟩
      · simp only [upd_eq, hI]
        show (w.heap.push o')[w.heap.size]? = _
        simp
      · simp only [upd_eq]
        exact ho.mono (by simp) hagr
  · intro b b' x x' hb hb' ha ha' hrw hne
    rcases hcase b x hb with ⟨hl, h1⟩ | ⟨rfl, rfl⟩ <;> rcases hcase b' x' hb' with ⟨hl', h1'⟩ | ⟨rfl, rfl⟩
    · rw [hag b hl, hag b' hl']; exact hs.sep b b' x x' h1 h1' ha ha' hrw hne
    · rw [hag b hl]
      obtain ⟨y, hy, _⟩ := hs.obj b x h1 ha
      have hbl : (f b).blk < w.heap.size := (Array.getElem?_eq_some_iff.1 hy).1
      simp only [upd_eq, hI]; omega
    · rw [hag b' hl']
      obtain ⟨y, hy, _⟩ := hs.obj b' x' h1' ha'
      have hbl : (f b').blk < w.heap.size := (Array.getElem?_eq_some_iff.1 hy).1
      simp only [upd_eq, hI]; omega
    · exact absurd rfl hne
  · intro g hg
    rw [hag g (Nat.lt_of_lt_of_le hg hs.size)]
    exact hs.glob g hg
  · have := hs.size
    simp only [List.length_append]
    omega
  · intro r ds hr
    obtain ⟨⟨elem, fr, h1⟩, h2⟩ := hs.rom r ds hr
    have hlt' : r < w.heap.size := (Array.getElem?_eq_some_iff.1 h1).1
    refine ⟨⟨elem, fr, ?_⟩, fun b x hb hrw => ?_⟩
    · show (w.heap.push o')[r]? = _
      rw [Array.getElem?_push, if_neg (by omega)]; exact h1
    · rcases hcase b x hb with ⟨hl, h3⟩ | ⟨rfl, rfl⟩
      · rw [hag b hl]; exact h2 b x h3 hrw
      · simp only [upd_eq, hI]; omega
  · refine ⟨rfl, rfl, rfl, by simp, fun r hr _ => ?_, Nat.le_refl _⟩
    show (w.heap.push o')[r]? = _
    rw [Array.getElem?_push, if_neg (by omega)]
  · intro b x hb hrw
    rcases hcase b x hb with ⟨hl, h1⟩ | ⟨rfl, rfl⟩
    · exact .inr ⟨b, x, h1, hrw, by rw [hag b hl]⟩
    · exact .inl (by simp [upd_eq, hI])

/-- A block of one's own is written. -/
theorem Step.write {P : Program} {f : Emb} {h : AH} {w : World} (hs : Sim P f h w) {b : Nat} {o o1 : AObj} (hb : h[b]? = some o) (ho : o.rw = true)
    (_ho1 : o1.rw = o1.rw) (hok : o1.ok P) {w1 : World} {o1' : Obj}
    (hw : w1.heap[(f b).blk]? = some o1') (hr : ORel f h.length (f b) o1 o1') (hother : ∀ r, r ≠ (f b).blk → w1.heap[r]? = w.heap[r]?)
    (hos : w1.os = w.os) (htape : w1.tape = w.tape) (hout : w1.output = w.output) (hsize : w1.heap.size = w.heap.size) (hdr : w1.drawn = w.drawn := by rfl) :
    Step P f h w f (h.set b o1) w1 := by
  have hal : ∀ x : AObj, x.rw = true → x.alive = true := fun x hx => by cases x <;> simp_all [AObj.rw, AObj.alive]
  have hlt : b < h.length := (List.getElem?_eq_some_iff.1 hb).1
  have hcase : ∀ (b' : Nat) (x : AObj), (h.set b o1)[b']? = some x → (b' = b ∧ x = o1) ∨ (b' ≠ b ∧ h[b']? = some x) := by
    intro b' x hx
    by_cases he : b = b'
    · subst he
      rw [List.getElem?_set_self hlt] at hx
      exact .inl ⟨rfl, (Option.some.inj hx).symm⟩
    · rw [List.getElem?_set_ne he] at hx
      exact .inr ⟨fun e => he e.symm, hx⟩
  refine ⟨⟨?_, ?_, hs.glob, by simpa using hs.size, ?_, hs.laid, fun b x hb => (hcase b x hb).elim (fun ⟨_, e⟩ => e ▸ hok) (fun ⟨_, h1⟩ => hs.ok b x h1)⟩, .refl _ _, by simp, ⟨hos, htape, hout, by omega, fun r hr' hno => hother r (fun e => hno b o hb ho e.symm), Nat.le_of_eq hdr.symm⟩, ?_⟩
  · intro b' x hx ha
    rcases hcase b' x hx with ⟨rfl, rfl⟩ | ⟨hne, hx'⟩
    · exact ⟨o1', hw, by simpa using hr⟩
    · obtain ⟨y, hy, hyr⟩ := hs.obj b' x hx' ha
      have : (f b).blk ≠ (f b').blk := hs.sep b b' o x hb hx' (hal o ho) ha ho (fun e => hne e.symm)
      exact ⟨y, by rw [hother _ (fun e => this e.symm)]; exact hy, by simpa using hyr⟩
  · intro b1 b2 x1 x2 h1 h2 ha1 ha2 hrw hne
    rcases hcase b1 x1 h1 with ⟨rfl, rfl⟩ | ⟨hn1, h1'⟩ <;> rcases hcase b2 x2 h2 with ⟨rfl, rfl⟩ | ⟨hn2, h2'⟩
    · exact absurd rfl hne
    · exact hs.sep b1 b2 o x2 hb h2' (hal o ho) ha2 ho hne
    · exact fun e => hs.sep b2 b1 o x1 hb h1' (hal o ho) ha1 ho (fun e => hne e.symm) e.symm
    · exact hs.sep b1 b2 x1 x2 h1' h2' ha1 ha2 hrw hne
  · intro r ds hr
    obtain ⟨⟨elem, fr, k1⟩, k2⟩ := hs.rom r ds hr
    refine ⟨⟨elem, fr, by rw [hother r (k2 b o hb ho).symm]; exact k1⟩, fun b' x hx hrw => ?_⟩
    rcases hcase b' x hx with ⟨rfl, rfl⟩ | ⟨hne, hx'⟩
    · exact k2 b' o hb ho
    · exact k2 b' x hx' hrw
  · intro b1 x1 h1 hrw
    rcases hcase b1 x1 h1 with ⟨rfl, rfl⟩ | ⟨hn1, h1'⟩
    · exact .inr ⟨b1, o, hb, ho, rfl⟩
    · exact .inr ⟨b1, x1, h1', hrw, rfl⟩

/-- Draws turn nothing. -/
theorem Sim.congr {P : Program} {f : Emb} {h : AH} {w w1 : World} (hs : Sim P f h w) (e : w1.heap = w.heap) : Sim P f h w1 :=
  ⟨fun b o hb ha => by rw [e]; exact hs.obj b o hb ha, hs.sep, hs.glob, hs.size, fun r ds hr => by rw [e]; exact hs.rom r ds hr, hs.laid, hs.ok⟩

theorem Step.trans {P : Program} {f f1 f2 : Emb} {h h1 h2 : AH} {w w1 w2 : World} (s : Step P f h w f1 h1 w1) (t : Step P f1 h1 w1 f2 h2 w2) : Step P f h w f2 h2 w2 := by
  refine ⟨t.sim, s.agree.trans t.agree s.len, Nat.le_trans s.len t.len, ?_, ?_⟩
  · refine ⟨t.keep.os.trans s.keep.os, t.keep.tape.trans s.keep.tape, t.keep.output.trans s.keep.output, Nat.le_trans s.keep.size t.keep.size, fun r hr hno => ?_, Nat.le_trans s.keep.drawn t.keep.drawn⟩
    have h1 := s.keep.block r hr hno
    have h2 := t.keep.block r (Nat.lt_of_lt_of_le hr s.keep.size) (fun b o hb ho e => by
      rcases s.own b o hb ho with hge | ⟨b0, o0, hb0, ho0, he⟩
      · omega
      · exact hno b0 o0 hb0 ho0 (he.trans e))
    exact h2.trans h1
  · intro b o hb ho
    rcases t.own b o hb ho with hge | ⟨b0, o0, hb0, ho0, he⟩
    · exact .inl (Nat.le_trans s.keep.size hge)
    · rcases s.own b0 o0 hb0 ho0 with h1 | ⟨b1, o1, h2, h3, h4⟩
      · exact .inl (by omega)
      · exact .inr ⟨b1, o1, h2, h3, h4.trans he⟩

theorem ARel.step {P : Program} {f f1 : Emb} {h h1 : AH} {w w1 : World} (s : Step P f h w f1 h1 w1) {xs ys : Array Value} (ha : ARel f h.length xs ys) : ARel f1 h1.length xs ys :=
  ha.mono s.len s.agree

/-- A contract over abstract heaps. -/
structure ACalls (P : Program) (F : FuncId) (args : Array Value) (h : AH) (R : Value → AH → Prop) : Prop where
  inh : ∃ v h', R v h'
  run : ∀ (f : Emb) (w : World) (args' : Array Value), Sim P f h w → ARel f h.length args args' →
    Calls P F args' w fun e w' => ∃ f' v v' h', e = .returned v' ∧ R v h' ∧ Step P f h w f' h' w' ∧ VRel f' h'.length v v'

theorem ACalls.mono {P : Program} {F : FuncId} {args : Array Value} {h : AH} {R R' : Value → AH → Prop} (hc : ACalls P F args h R) (hr : ∀ v h', R v h' → R' v h') : ACalls P F args h R' :=
  ⟨let ⟨v, h', r⟩ := hc.inh; ⟨v, h', hr v h' r⟩, fun f w args' hs ha => (hc.run f w args' hs ha).mono fun e w' ⟨f', v, v', h', h1, h2, h3, h4⟩ => ⟨f', v, v', h', h1, hr _ _ h2, h3, h4⟩⟩

end Go.Am
set_option linter.unusedVariables false
set_option linter.unusedSimpArgs false
/- What single operations do, on the abstract heap and in a world. -/
namespace Go.Am
open Go

def plain1 : Value → Bool
  | .bool _ | .int _ _ | .string _ | .nilFunc | .nilIface | .pointer none | .map none | .slice none _ _ => true
  | _ => false

def plainB : Value → Bool
  | .agg cs => cs.all plain1
  | .iface _ v => plain1 v
  | .func (.func _) xs cs => xs.size == 0 && cs.size == 0
  | v => plain1 v

def aconst (v : Value) : Value := if plainB v then v else junk

def aeval (P : Program) (a : Array Value) : Operand → Value
  | .tmp t => a.getD t junk
  | .const v => aconst v
  | .global g => if g < P.globals.size then .pointer (some ⟨g, 0, none⟩) else junk
  | .func F => .func (.func F) #[] #[]

theorem plain1_refl {f : Emb} {L : Nat} {v : Value} (h : plain1 v = true) : VRel f L v v := by
  cases v with
  | bool b => exact .bool b
  | int k n => exact .int k n
  | string s => exact .string s
  | nilFunc => exact .nilFunc
  | nilIface => exact .nilIface
  | pointer a => cases a <;> simp [plain1] at h; exact .nilPtr
  | map a => cases a <;> simp [plain1] at h; exact .nilMap
  | slice a l c => cases a <;> simp [plain1] at h; exact .nilSlice l c
  | _ => simp [plain1] at h

theorem plain1_one {v : Value} (h : plain1 v = true) : v.oneCell' = true := by
  cases v <;> simp_all [plain1, Value.oneCell']

theorem plain1_inv {f : Emb} {L : Nat} {v v' : Value} (h : plain1 v = true) (r : VRel f L v v') : v' = v := by
  cases r <;> first | rfl | simp [plain1, junk] at h

theorem getD_all {cs : Array Value} (h : cs.all plain1 = true) (i : Nat) (hi : i < cs.size) : plain1 (cs.getD i junk) = true := by
  rw [Array.all_eq_true] at h
  simpa [Array.getD, hi] using h i hi

theorem getD_ge {cs : Array Value} (i : Nat) (hi : ¬ i < cs.size) : cs.getD i junk = junk := by simp [Array.getD, hi]

theorem plain_agg_rel {f : Emb} {L : Nat} {cs : Array Value} (h : cs.all plain1 = true) : VRel f L (.agg cs) (.agg cs) := by
  refine .agg cs cs rfl (fun i => ?_) (fun i => ?_)
  · by_cases hi : i < cs.size
    · exact plain1_refl (getD_all h i hi)
    · rw [getD_ge i hi]; exact .junk _
  · by_cases hi : i < cs.size
    · exact plain1_one (getD_all h i hi)
    · rw [getD_ge i hi]; rfl

theorem arr_eq_of_rel {f : Emb} {L : Nat} {xs ys : Array Value} (h : xs.all plain1 = true) (hs : xs.size = ys.size) (hr : ∀ i : Nat, VRel f L (xs.getD i junk) (ys.getD i junk)) : ys = xs := by
  apply Array.ext (by omega)
  intro i h1 h2
  have := plain1_inv (getD_all h i h2) (hr i)
  simpa [Array.getD, h1, h2] using this

theorem plain_refl {f : Emb} {L : Nat} {v : Value} (h : plainB v = true) : VRel f L v v := by
  cases v with
  | agg cs => exact plain_agg_rel h
  | iface t v => exact .iface t v v (plain1_refl h)
  | func fn xs cs =>
    cases fn with
    | func F =>
      simp only [plainB, Bool.and_eq_true, beq_iff_eq] at h
      exact .func _ xs xs cs cs rfl rfl (fun i => by rw [getD_ge i (by omega)]; exact .junk _) rfl (fun i => by rw [getD_ge i (by omega)]; exact .junk _)
    | _ => simp [plainB, plain1] at h
  | _ => exact plain1_refl (by simpa [plainB] using h)

theorem plain_inv {f : Emb} {L : Nat} {v v' : Value} (h : plainB v = true) (r : VRel f L v v') : v' = v := by
  cases r with
  | agg xs ys hx hxy hone => rw [arr_eq_of_rel h hx hxy]
  | iface t v v' hv => rw [plain1_inv h hv]
  | func fn xs ys cs ds hfn hx hxy hc hcd =>
    cases fn with
    | func F =>
      simp only [plainB, Bool.and_eq_true, beq_iff_eq] at h
      have e1 : ys = xs := by apply Array.ext (by omega); intro i h1 h2; omega
      have e2 : ds = cs := by apply Array.ext (by omega); intro i h1 h2; omega
      rw [e1, e2]
    | _ => simp [plainB, plain1] at h
  | junk => simp [plainB, plain1, junk] at h
  | tuple => simp [plainB, plain1] at h
  | ptr => simp [plainB, plain1] at h
  | map => simp [plainB, plain1] at h
  | slice => simp [plainB, plain1] at h
  | slice0 => simp [plainB, plain1] at h
  | fz => simp [plainB, plain1] at h
  | fz0 => simp [plainB, plain1] at h
  | bnil => simp [plainB, plain1] at h
  | fp => simp [plainB, plain1] at h
  | _ => rfl

theorem aconst_rel {f : Emb} {L : Nat} (v : Value) : VRel f L (aconst v) v := by
  unfold aconst
  split
  · rename_i h; exact plain_refl h
  · exact .junk _

theorem aeval_rel {P : Program} {f : Emb} {h : AH} {w : World} {a : Array Value} {a' : Act} (hs : Sim P f h w) (ha : ARel f h.length a a'.tmps) (x : Operand) :
    VRel f h.length (aeval P a x) (a'.eval x) := by
  cases x with
  | tmp t =>
    have := ha.2 t
    simp only [aeval, Act.eval]
    by_cases ht : t < a.size
    · have ht' : t < a'.tmps.size := ha.1 ▸ ht
      simpa [Array.getD, ht, ht'] using this
    · rw [getD_ge t ht]; exact .junk _
  | const v => exact aconst_rel v
  | global g =>
    simp only [aeval, Act.eval]
    split
    · rename_i hg
      obtain ⟨h1, h2⟩ := hs.glob g hg
      exact .ptr g 0 g 0 (Nat.lt_of_lt_of_le hg hs.size) h1.symm (by omega)
    · exact .junk _
  | func F => exact .func _ #[] #[] #[] #[] rfl rfl (fun i => by simp; exact .junk _) rfl (fun i => by simp; exact .junk _)

/-- Programs of the model that ask nothing of the world. -/
def pureRun (P : Program) {α : Type} : Sem α → Option α
  | .pure a => some a
  | .program k => pureRun P (k P)
  | _ => none

theorem pureRun_run {P : Program} {α : Type} {s : Sem α} {a : α} (h : pureRun P s = some a) (w : World) : s.run P w = .ok a w := by
  induction s with
  | pure b => simp [pureRun] at h; subst h; rfl
  | program k ih => exact ih P h
  | _ => simp [pureRun] at h

theorem pureRun_bind {P : Program} {α β : Type} (s : Sem α) (k : α → Sem β) {a : α} (h : pureRun P s = some a) : pureRun P (s >>= k) = pureRun P (k a) := by
  induction s with
  | pure b => simp [pureRun] at h; subst h; rfl
  | program g ih => exact ih P h
  | _ => simp [pureRun] at h

/-! ### reading -/
theorem cell_of_block {w : World} {r : Nat} {c : Array Value} {t : TypeId} {fr : Nat × Nat} (h : w.heap[r]? = some (.cells c t fr)) (i : Nat) : w.cell? ⟨r, i, none⟩ = c[i]? := by
  simp [World.cell?, h]

/-- a row of cells lies there -/
def Held (f : Emb) (L : Nat) (w : World) (c : Array Value) (r base : Nat) : Prop := ∃ ds elem fr, w.heap[r]? = some (.cells ds elem fr) ∧ base + c.size ≤ ds.size ∧
  ∀ i : Nat, i < c.size → VRel f L (c.getD i junk) (ds.getD (base + i) junk) ∧ (ds.getD (base + i) junk).oneCell' = true

theorem Sim.held {P : Program} {f : Emb} {h : AH} {w : World} (hs : Sim P f h w) {b es : Nat} {c : Array Value} {rw : Bool} (hb : h[b]? = some (.cells c es rw)) : Held f h.length w c (f b).blk (f b).off := by
  obtain ⟨o', ho', c', elem, fr, rfl, h2, h3, h4, h5, h6, h7⟩ := hs.obj b _ hb rfl
  exact ⟨c', elem, fr, ho', by omega, h7⟩

theorem Sim.heldRom {P : Program} {f : Emb} {h : AH} {w : World} (hs : Sim P f h w) {c ds : Array Value} {r o : Nat} (hrom : f.rom r = some ds) (hle : o + c.size ≤ ds.size)
    (hxy : ∀ i : Nat, VRel f h.length (c.getD i junk) (if i < c.size then ds.getD (o + i) junk else junk)) (hone : ∀ i : Nat, i < c.size → (ds.getD (o + i) junk).oneCell' = true) : Held f h.length w c r o := by
  obtain ⟨⟨elem, fr, h1⟩, _⟩ := hs.rom r ds hrom
  exact ⟨ds, elem, fr, h1, hle, fun i hi => ⟨by have := hxy i; rwa [if_pos hi] at this, hone i hi⟩⟩

theorem Held.cell {f : Emb} {L : Nat} {w : World} {c : Array Value} {r base : Nat} (hh : Held f L w c r base) (i : Nat) (hi : i < c.size) :
    ∃ v', w.cell? ⟨r, base + i, none⟩ = some v' ∧ VRel f L (c.getD i junk) v' ∧ v'.oneCell' = true := by
  obtain ⟨c', elem, fr, ho', h6, h7⟩ := hh
  have hlt : base + i < c'.size := by omega
  obtain ⟨h8, h9⟩ := h7 i hi
  refine ⟨c'.getD (base + i) junk, ?_, h8, h9⟩
  rw [cell_of_block ho']
  simp [Array.getD, hlt]

theorem Sim.cell {P : Program} {f : Emb} {h : AH} {w : World} (hs : Sim P f h w) {b es : Nat} {c : Array Value} {rw : Bool} (hb : h[b]? = some (.cells c es rw)) (i : Nat) (hi : i < c.size) :
    ∃ v', w.cell? ⟨(f b).blk, (f b).off + i, none⟩ = some v' ∧ VRel f h.length (c.getD i junk) v' ∧ v'.oneCell' = true := (hs.held hb).cell i hi

theorem addr_add (b o j : Nat) : (⟨b, o, none⟩ : Addr).add j = ⟨b, o + j, none⟩ := by
  unfold Addr.add
  split
  · subst_vars; rfl
  · rfl

/-- the cells from an address on -/
theorem Held.loadCells {P : Program} {f : Emb} {L : Nat} {w : World} {c : Array Value} {r base : Nat} (hh : Held f L w c r base) (o n : Nat) (hn : o + n ≤ c.size) :
    ∃ ds : Array Value, (loadCells ⟨r, base + o, none⟩ n).run P w = .ok ds w ∧ ds.size = n ∧
      (∀ i : Nat, VRel f L ((c.extract o (o + n)).getD i junk) (ds.getD i junk)) ∧ ∀ i : Nat, (ds.getD i junk).oneCell' = true := by
  let g : Nat → Value := fun j => (w.cell? ⟨r, base + (o + j), none⟩).getD junk
  have hg : ∀ j, j < n → w.cell? ⟨r, base + (o + j), none⟩ = some (g j) ∧ VRel f L (c.getD (o + j) junk) (g j) ∧ (g j).oneCell' = true := by
    intro j hj
    obtain ⟨v', h1, h2, h3⟩ := hh.cell (o + j) (by omega)
    have : g j = v' := by simp [g, h1]
    rw [this]
    exact ⟨h1, h2, h3⟩
  refine ⟨((List.range n).map g).toArray, ?_, by simp, ?_, ?_⟩
  · refine run_loadCells w _ n g fun j hj => ?_
    rw [addr_add, Nat.add_assoc]
    exact (hg j hj).1
  · intro i
    by_cases hi : i < n
    · have e1 : (((List.range n).map g).toArray).getD i junk = g i := by simp [Array.getD, hi]
      have hsz : (c.extract o (o + n)).size = n := by simp; omega
      have e2 : (c.extract o (o + n)).getD i junk = c.getD (o + i) junk := by
        have : o + i < c.size := by omega
        have h3 : i < min (o + n) c.size - o := by omega
        simp [Array.getD, this, h3]
      rw [e1, e2]
      exact (hg i hi).2.1
    · have hsz : ¬ i < (c.extract o (o + n)).size := by simp; omega
      rw [getD_ge i hsz]
      exact .junk _
  · intro i
    by_cases hi : i < n
    · have e1 : (((List.range n).map g).toArray).getD i junk = g i := by simp [Array.getD, hi]
      rw [e1]; exact (hg i hi).2.2
    · rw [getD_ge i (by simpa using hi)]; rfl

theorem Sim.loadCells {P : Program} {f : Emb} {h : AH} {w : World} (hs : Sim P f h w) {b es : Nat} {c : Array Value} {rw : Bool} (hb : h[b]? = some (.cells c es rw)) (o n : Nat) (hn : o + n ≤ c.size) :
    ∃ ds : Array Value, (Go.loadCells ⟨(f b).blk, (f b).off + o, none⟩ n).run P w = .ok ds w ∧ ds.size = n ∧
      (∀ i : Nat, VRel f h.length ((c.extract o (o + n)).getD i junk) (ds.getD i junk)) ∧ ∀ i : Nat, (ds.getD i junk).oneCell' = true := (hs.held hb).loadCells o n hn

def isAggD : TypeDesc → Bool
  | .struct _ | .array _ _ => true
  | _ => false

theorem run_isAgg {P : Program} {t : TypeId} {d : TypeDesc} (h : P.underlying t = some d) (w : World) : (isAgg t).run P w = .ok (isAggD d) w := by
  simp only [isAgg, Sem.run_bind, run_underlying h, Result.andThen_ok]
  cases d <;> rfl

/-- what stands in a row -/
def aloadRow (P : Program) (t : TypeId) (c : Array Value) (o : Nat) : Option Value :=
  match P.underlying t, P.info? t with
  | some d, some i => if isAggD d then (if o + i.size ≤ c.size then some (.agg (c.extract o (o + i.size))) else none) else c[o]?
  | _, _ => none

def aload (P : Program) (h : AH) (t : TypeId) : Value → Option Value
  | .pointer (some ⟨b, o, none⟩) =>
    match h[b]? with
    | some (.cells c _ _) => aloadRow P t c o
    | _ => none
  | .func (.yield 1) cs ks => match fzN ks with
    | some k => aloadRow P t cs k
    | none => none
  | _ => none

theorem Held.loadVar {P : Program} {f : Emb} {L : Nat} {w : World} {c : Array Value} {rr base : Nat} (hh : Held f L w c rr base) {t : TypeId} {o : Nat} {r : Value}
    (ha : aloadRow P t c o = some r) : ∃ r', (loadVar t ⟨rr, base + o, none⟩).run P w = .ok r' w ∧ VRel f L r r' := by
  unfold aloadRow at ha
  split at ha
  · rename_i d i hu hi
    split at ha
    · rename_i hagg
      split at ha
      · rename_i hle
        obtain ⟨ds, h1, h2, h3, h4⟩ := hh.loadCells (P := P) o i.size hle
        refine ⟨.agg ds, ?_, ?_⟩
        · simp only [Go.loadVar, Sem.run_bind, run_isAgg hu, Result.andThen_ok, hagg, if_true, run_sizeOf w hi, Program.cellsOf, hi, Option.map_some, Option.getD_some, h1, Sem.run_pure]
        · simp only [Option.some.injEq] at ha
          subst ha
          exact .agg _ _ (by simp; omega) h3 h4
      · cases ha
    · rename_i hagg
      have hlt : o < c.size := (Array.getElem?_eq_some_iff.1 ha).1
      obtain ⟨v', h1, h2, h3⟩ := hh.cell o hlt
      refine ⟨v', ?_, ?_⟩
      · simp only [Bool.not_eq_true] at hagg
        simp only [Go.loadVar, Sem.run_bind, run_isAgg hu, Result.andThen_ok, hagg, Bool.false_eq_true, if_false, run_load, h1]
      · have : c.getD o junk = r := by
          have := (Array.getElem?_eq_some_iff.1 ha).2
          simp [Array.getD, hlt, this]
        rw [← this]; exact h2
  · cases ha

theorem sound_loadVar {P : Program} {f : Emb} {h : AH} {w : World} (hs : Sim P f h w) {t : TypeId} {b o : Nat} {r : Value}
    (ha : aload P h t (.pointer (some ⟨b, o, none⟩)) = some r) : ∃ r', (loadVar t ⟨(f b).blk, (f b).off + o, none⟩).run P w = .ok r' w ∧ VRel f h.length r r' := by
  unfold aload at ha
  simp only at ha
  split at ha
  · rename_i c es rw hb
    exact (hs.held hb).loadVar ha
  · cases ha

theorem sound_load {P : Program} {f : Emb} {h : AH} {w : World} (hs : Sim P f h w) {t : TypeId} {v v' r : Value} (hv : VRel f h.length v v')
    (ha : aload P h t v = some r) : ∃ r', (Instr.loadAt t v').run P w = .ok r' w ∧ VRel f h.length r r' := by
  cases hv with
  | ptr b o r' o' hb hr ho =>
    subst hr; subst ho
    obtain ⟨r1, h1, h2⟩ := sound_loadVar hs ha
    exact ⟨r1, by simp only [Instr.loadAt, Instr.sureAddr, Sem.run_bind, Sem.run_pure, Result.andThen_ok, h1], h2⟩
  | fp cs k r' o o' ds hrom hle ho hxy hone =>
    subst ho
    simp only [aload, fzN_lit] at ha
    obtain ⟨r1, h1, h2⟩ := (hs.heldRom hrom hle hxy hone).loadVar ha
    exact ⟨r1, by simp only [Instr.loadAt, Instr.sureAddr, Sem.run_bind, Sem.run_pure, Result.andThen_ok, h1], h2⟩
  | func fn xs ys cs ds hfn => exfalso; cases fn <;> simp [Fn.plain, aload] at hfn ha
  | _ => simp [aload, junk] at ha

end Go.Am
