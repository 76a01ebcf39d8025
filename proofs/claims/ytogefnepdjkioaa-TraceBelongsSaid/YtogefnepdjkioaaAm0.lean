import Derived.WalkKit
import Derived.ChangeKeysEq
import Derived.DeepKeys5
import Derived.Maps.Keyed
set_option linter.unusedVariables false
set_option linter.unusedSimpArgs false
/- Types whose values are rows of bools, numbers and strings. -/
namespace Go.Am
open Go

/-- A value that is not known any more: whatever stands there. -/
def junk : Value := .chan (some 0)

/-- the cells of a type, a type each -/
def flat (P : Program) : Nat → TypeId → Option (List TypeId)
  | 0, _ => none
  | m + 1, t =>
    match P.underlying t with
    | some .bool | some (.int _) | some .string | some (.slice _) => some [t]
    | some (.struct fs) => (fs.toList.foldlM (fun (acc : List TypeId) fld => if fld.offset = acc.length then (flat P m fld.type).bind fun l => if l.length = P.cellsOf fld.type then some (acc ++ l) else none else none) []).bind fun l => if l.length = P.cellsOf t then some l else none
    | some (.array k e) => (flat P m e).bind fun l => if l.length = P.cellsOf e ∧ P.cellsOf t = k * l.length then some ((List.replicate k l).flatten) else none
    | _ => none

/-- a bool, a number, a string of a type -/
def litCell (P : Program) (t : TypeId) (v : Value) : Bool :=
  match P.underlying t, v with
  | some .bool, .bool _ => true
  | some (.int q), .int q' n => q' == q && (Lit.int q n).wf
  | some .string, .string s => decide (s.size ≤ maxLen)
  | _, _ => false

/-- so are all of these -/
def litCells (P : Program) : List TypeId → List Value → Bool
  | [], [] => true
  | t :: ts, v :: vs => litCell P t v && litCells P ts vs
  | _, _ => false

theorem litCells_append {P : Program} : ∀ {ts ts2 : List TypeId} {vs vs2 : List Value}, ts.length = vs.length → (litCells P (ts ++ ts2) (vs ++ vs2) = true ↔ litCells P ts vs = true ∧ litCells P ts2 vs2 = true)
  | [], _, [], _, _ => by simp [litCells]
  | t :: ts, ts2, v :: vs, vs2, h => by
    simp only [List.cons_append, litCells, Bool.and_eq_true]
    rw [litCells_append (by simpa using h)]
    simp [and_assoc]
  | [], _, _ :: _, _, h => by simp at h
  | _ :: _, _, [], _, h => by simp at h

theorem litCells_length {P : Program} : ∀ {ts : List TypeId} {vs : List Value}, litCells P ts vs = true → vs.length = ts.length
  | [], [], _ => rfl
  | t :: ts, v :: vs, h => by
    simp only [litCells, Bool.and_eq_true] at h
    simp [litCells_length h.2]
  | [], _ :: _, h => by simp [litCells] at h
  | _ :: _, [], h => by simp [litCells] at h

theorem litCells_piece {P : Program} {ts : List TypeId} {vs : List Value} (h : litCells P ts vs = true) (o m : Nat) : litCells P ((ts.drop o).take m) ((vs.drop o).take m) = true := by
  have hl := litCells_length h
  have h1 : litCells P (ts.take o ++ ts.drop o) (vs.take o ++ vs.drop o) = true := by simpa using h
  rw [litCells_append (by simp [hl])] at h1
  have h2 : litCells P ((ts.drop o).take m ++ (ts.drop o).drop m) ((vs.drop o).take m ++ (vs.drop o).drop m) = true := by rw [List.take_append_drop, List.take_append_drop]; exact h1.2
  rw [litCells_append (by simp [hl])] at h2
  exact h2.1

/-- may a type be told by its cells? -/
def keyTy (P : Program) (k : TypeId) : Bool :=
  decide (k < P.types.size) && decide (P.types.size + 2 ≤ 10000) && P.keyType k && !(P.eqGuardType P.depth k)

/-- a value of such a type -/
def keyed (P : Program) (k : TypeId) (v : Value) : Bool :=
  match P.underlying k, v with
  | some (.struct _), .agg cs | some (.array _ _), .agg cs => match flat P 8 k with
    | some ts => litCells P ts cs.toList
    | none => false
  | some (.struct _), _ | some (.array _ _), _ => false
  | some _, v => litCell P k v
  | none, _ => false

theorem keyLits_flat {P : Program} : ∀ (m D : Nat) (t : TypeId) (ts : List TypeId) (cs : List Value), flat P m t = some ts → P.keyTypeAt D t = true → litCells P ts cs = true → ∃ L, P.keyLits D t cs = some L := by
  intro m
  induction m with
  | zero => intro D t ts cs h; simp [flat] at h
  | succ m ih =>
    intro D t ts cs hf hk hl
    cases D with
    | zero => simp [Program.keyTypeAt] at hk
    | succ D =>
      unfold flat at hf
      unfold Program.keyTypeAt at hk
      unfold Program.keyLits
      have one : ts = [t] → ∃ v, cs = [v] ∧ litCell P t v = true := by
        rintro rfl
        match cs, hl with
        | [v], hl => simp only [litCells, Bool.and_true] at hl; exact ⟨v, rfl, hl⟩
        | [], hl => simp [litCells] at hl
        | _ :: _ :: _, hl => simp [litCells] at hl
      cases hu : P.underlying t with
      | none => simp [hu] at hf
      | some d =>
        rw [hu] at hf hk
        cases d with
        | bool =>
          obtain ⟨v, rfl, hv⟩ := one (by simpa using hf.symm)
          simp only [litCell, hu] at hv
          cases v <;> simp at hv
          exact ⟨_, rfl⟩
        | int q =>
          obtain ⟨v, rfl, hv⟩ := one (by simpa using hf.symm)
          simp only [litCell, hu] at hv
          cases v <;> simp at hv
          exact ⟨_, by simp only [hv, and_self, if_true]; rfl⟩
        | string =>
          obtain ⟨v, rfl, hv⟩ := one (by simpa using hf.symm)
          simp only [litCell, hu] at hv
          cases v <;> simp at hv
          exact ⟨_, by simp only [hv, if_true]; rfl⟩
        | array k e =>
          simp only at hk
          rw [Option.bind_eq_some_iff] at hf
          obtain ⟨l, hle, hf⟩ := hf
          split at hf
          · rename_i hll
            cases hf
            obtain ⟨e1, e2⟩ := hll
            have hlen : cs.length = P.cellsOf t := by rw [litCells_length hl, e2]; simp
            simp only [hlen, if_true]
            have key : ∀ is : List Nat, (∀ i ∈ is, i < k) → ∃ LL, (is.mapM fun i => P.keyLits D e ((cs.drop (i * P.cellsOf e)).take (P.cellsOf e))) = some LL := by
              intro is
              induction is with
              | nil => intro _; exact ⟨[], rfl⟩
              | cons i is ih2 =>
                intro hi
                obtain ⟨LL, hLL⟩ := ih2 fun j hj => hi j (List.mem_cons_of_mem _ hj)
                have hik := hi i (List.mem_cons_self ..)
                have hpc := litCells_piece hl (i * l.length) l.length
                have hrep : ∀ (k i : Nat), i < k → (((List.replicate k l).flatten).drop (i * l.length)).take l.length = l := by
                  intro k
                  induction k with
                  | zero => intro i h; omega
                  | succ k ih3 =>
                    intro i h
                    rw [List.replicate_succ, List.flatten_cons]
                    cases i with
                    | zero => simp
                    | succ i =>
                      rw [Nat.add_mul, Nat.one_mul, Nat.add_comm, ← List.drop_drop, List.drop_left]
                      exact ih3 i (by omega)
                rw [hrep k i hik, e1] at hpc
                obtain ⟨L, hL⟩ := ih D e l _ hle hk hpc
                exact ⟨L :: LL, by rw [List.mapM_cons, hL, hLL]; rfl⟩
            obtain ⟨LL, hLL⟩ := key (List.range k) (fun i hi => List.mem_range.1 hi)
            exact ⟨_, by rw [hLL]; rfl⟩
          · cases hf
        | struct fs =>
          simp only [Bool.and_eq_true] at hk
          obtain ⟨⟨hall, _⟩, _⟩ := hk
          simp only [Option.bind_eq_some_iff] at hf
          obtain ⟨l, hl0, hf⟩ := hf
          split at hf
          · rename_i hll
            cases hf
            have hlen : cs.length = P.cellsOf t := by rw [litCells_length hl, hll]
            have hname : fs.all (fun x => x.name != "_") = true := by
              rw [Array.all_eq_true] at hall ⊢
              intro i hi
              have := hall i hi
              simp only [Bool.and_eq_true] at this
              exact this.1
            simp only [hlen, hname, and_self, if_true]
            have parts : ∀ (fl : List Field) (acc l : List TypeId), fl.foldlM (fun (acc : List TypeId) fld => if fld.offset = acc.length then (flat P m fld.type).bind fun l => if l.length = P.cellsOf fld.type then some (acc ++ l) else none else none) acc = some l →
                (∃ x, l = acc ++ x) ∧ ∀ f ∈ fl, ∃ lf, flat P m f.type = some lf ∧ lf.length = P.cellsOf f.type ∧ (l.drop f.offset).take (P.cellsOf f.type) = lf := by
              intro fl
              induction fl with
              | nil => intro acc l h1; simp at h1; subst h1; exact ⟨⟨[], by simp⟩, fun f hf => by simp at hf⟩
              | cons f fl ih2 =>
                intro acc l h1
                rw [List.foldlM_cons] at h1
                simp only [Option.bind_eq_bind, Option.bind_eq_some_iff] at h1
                obtain ⟨acc2, h3, h4⟩ := h1
                split at h3
                · rename_i ho
                  rw [Option.bind_eq_some_iff] at h3
                  obtain ⟨l2, h5, h6⟩ := h3
                  split at h6
                  · rename_i hc
                    cases h6
                    obtain ⟨⟨x, hx⟩, h7⟩ := ih2 _ _ h4
                    refine ⟨⟨l2 ++ x, by rw [hx]; simp⟩, fun g hg => ?_⟩
                    rcases List.mem_cons.1 hg with rfl | hg
                    · refine ⟨l2, h5, hc, ?_⟩
                      rw [hx, ho, List.append_assoc, List.drop_left, ← hc, List.take_left]
                    · exact h7 g hg
                  · cases h6
                · cases h3
            obtain ⟨_, hparts⟩ := parts fs.toList [] _ hl0
            have key : ∀ fl : List Field, (∀ f ∈ fl, f ∈ fs.toList) → ∃ LL, (fl.mapM fun f => P.keyLits D f.type ((cs.drop f.offset).take (P.cellsOf f.type))) = some LL := by
              intro fl
              induction fl with
              | nil => intro _; exact ⟨[], rfl⟩
              | cons f fl ih2 =>
                intro hi
                obtain ⟨LL, hLL⟩ := ih2 fun j hj => hi j (List.mem_cons_of_mem _ hj)
                have hmem := hi f (List.mem_cons_self ..)
                obtain ⟨lf, g1, g2, g3⟩ := hparts f hmem
                have hpc := litCells_piece hl f.offset (P.cellsOf f.type)
                rw [g3] at hpc
                have hkf : P.keyTypeAt D f.type = true := by
                  rw [Array.all_eq_true] at hall
                  obtain ⟨j, hj, rfl⟩ := List.getElem_of_mem hmem
                  have := hall j (by simpa using hj)
                  simp only [Bool.and_eq_true] at this
                  simpa using this.2
                obtain ⟨L, hL⟩ := ih D f.type lf _ g1 hkf hpc
                exact ⟨L :: LL, by rw [List.mapM_cons, hL, hLL]; rfl⟩
            obtain ⟨LL, hLL⟩ := key fs.toList (fun f hf => hf)
            exact ⟨_, by rw [hLL]; rfl⟩
          · cases hf
        | _ => simp at hk

theorem keyOf_keyed {P : Program} {k : TypeId} {v : Value} (hk : keyTy P k = true) (hv : keyed P k v = true) : ∃ l, keyOf P k v = some l := by
  simp only [keyTy, Bool.and_eq_true, decide_eq_true_eq] at hk
  obtain ⟨⟨⟨h1, h2⟩, h3⟩, h4⟩ := hk
  have agg : ∀ cs : Array Value, v = .agg cs → (match P.underlying k with | some (.array _ _) | some (.struct _) => true | _ => false) = true → (∃ ts, flat P 8 k = some ts ∧ litCells P ts cs.toList = true) → ∃ l, keyOf P k v = some l := by
    rintro cs rfl hwide ⟨ts, hf, hl⟩
    obtain ⟨L, hL⟩ := keyLits_flat 8 (P.types.size + 1) k ts cs.toList hf h3 hl
    have hform : (Value.agg cs).formed P k = true := by
      have hlen := litCells_length hl
      have hc : ts.length = P.cellsOf k := by
        unfold flat at hf
        cases hu : P.underlying k with
        | none => simp [hu] at hf
        | some d =>
          rw [hu] at hf hwide
          cases d <;> simp at hwide
          all_goals
            simp only [Option.bind_eq_some_iff] at hf
            obtain ⟨l, _, hf⟩ := hf
            split at hf <;> cases hf
            rename_i hx
            first | exact hx | (rw [hx.2]; simp)
      simp only [Value.formed]
      split at hwide
      · rename_i hu; rw [hu]; simp at hlen ⊢; omega
      · rename_i hu; rw [hu]; simp at hlen ⊢; omega
      · cases hwide
    unfold keyOf
    split
    · rw [if_pos (by rw [h3, hform]; rfl)]
      exact ⟨_, by rw [show (Value.agg cs).cells = cs from rfl, hL]; rfl⟩
    · rw [if_pos (by rw [h3, hform]; rfl)]
      exact ⟨_, by rw [show (Value.agg cs).cells = cs from rfl, hL]; rfl⟩
    · rename_i n1 n2
      split at hwide <;> simp_all
  have scalar : litCell P k v = true → ∃ l, keyOf P k v = some l := by
    intro hv
    unfold litCell at hv
    unfold keyOf mapKey
    cases hu : P.underlying k with
    | none => simp [hu] at hv
    | some d =>
      rw [hu] at hv
      cases d <;> cases v <;> simp at hv
      · exact ⟨_, rfl⟩
      · exact ⟨_, by simp only [hv, and_self, if_true]; rfl⟩
      · exact ⟨_, by simp only [hv, if_true]; rfl⟩
  unfold keyed at hv
  split at hv
  · rename_i fs cs hu
    split at hv
    · rename_i ts hf; exact agg cs rfl (by rw [hu]) ⟨ts, hf, hv⟩
    · cases hv
  · rename_i n e cs hu
    split at hv
    · rename_i ts hf; exact agg cs rfl (by rw [hu]) ⟨ts, hf, hv⟩
    · cases hv
  · cases hv
  · cases hv
  · exact scalar hv
  · cases hv

theorem keyed_law {P : Program} {k : TypeId} (hl : laidOutB P = true) (hk : keyTy P k = true) : Maps.Keyed P k := by
  simp only [keyTy, Bool.and_eq_true, decide_eq_true_eq] at hk
  obtain ⟨⟨⟨h1, h2⟩, h3⟩, h4⟩ := hk
  have h3' := h3
  unfold Program.keyType Program.keyTypeAt at h3'
  cases hu : P.underlying k with
  | none => simp [hu] at h3'
  | some d =>
    cases d with
    | bool => exact Maps.bool_keyed hu
    | int q => exact Maps.int_keyed hu
    | string => exact Maps.string_keyed hu
    | array n e => exact .of_law (deep_law_gate hl h2 h1 h3 (by rw [hu]))
    | struct fs => exact .of_law (deep_law_gate hl h2 h1 h3 (by rw [hu]))
    | _ => simp [hu] at h3'
end Go.Am
