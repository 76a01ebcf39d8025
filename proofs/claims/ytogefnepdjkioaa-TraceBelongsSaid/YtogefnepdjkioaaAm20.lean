import Derived.Test.YtogefnepdjkioaaAm19
import Derived.ProofKit
import Derived.OpenShut
set_option linter.unusedVariables false
set_option linter.unusedSimpArgs false
/- From what is read of an argument to an abstract value. -/
namespace Go.Am
open Go

/-- cells that are told of alone, and rows of such -/
def okLeaf (P : Program) : Nat → TypeId → Bool
  | 0, _ => false
  | m + 1, t =>
    match P.underlying t with
    | some .bool | some (.int _) | some .string => true
    | some (.slice e) => match flat P 8 e with
      | some l => l.length != 0 && l.length == P.cellsOf e && l.all (okLeaf P m)
      | none => false
    | _ => false

/-- what is known of a cell that came in: all of it, as a value -/
inductive TLeaf (P : Program) : TypeId → Value → Prop
  | bool {t : TypeId} (b : Bool) (hu : P.underlying t = some .bool) : TLeaf P t (.bool b)
  | int {t : TypeId} {k : IntKind} (n : Int) (hu : P.underlying t = some (.int k)) (hw : (Lit.int k n).wf = true) : TLeaf P t (.int k n)
  | string {t : TypeId} (s : ByteArray) (hu : P.underlying t = some .string) (hs : s.size ≤ maxLen) : TLeaf P t (.string s)
  | nil {t e : TypeId} (hu : P.underlying t = some (.slice e)) : TLeaf P t (.slice none 0 0)
  | slice {t e : TypeId} (l : List TypeId) (len : Nat) (c : Array Value) (hu : P.underlying t = some (.slice e)) (hl : flat P 8 e = some l) (he : P.cellsOf e = l.length) (h0 : l.length ≠ 0) (hm : len ≤ maxLen)
      (hc : c.size = len * l.length) (hall : ∀ i j, i < len → j < l.length → TLeaf P (l.getD j 0) (c.getD (i * l.length + j) junk)) : TLeaf P t (fz c len)

variable {H : Type} {enc : TypeId × Value → H} {P : Program} {w : World} {base : Nat} {spare : Nat → Bool} {held : Bool}

/-- what is read of one cell -/
def LeafAt (enc : TypeId × Value → H) (P : Program) (w : World) (base : Nat) (spare : Nat → Bool) (held : Bool) (N : Nat) (cs : List Value) (i : Nat) (u : TypeId) : Prop :=
  ∃ c n x, cs[i]? = some c ∧ n ≤ N ∧ DataW.trod enc P w base spare held n u [c] = some x

theorem LeafAt.up {N N' : Nat} (hN : N ≤ N') {cs : List Value} {i : Nat} {u : TypeId} (h : LeafAt enc P w base spare held N cs i u) : LeafAt enc P w base spare held N' cs i u :=
  let ⟨c, n, x, h1, h2, h3⟩ := h; ⟨c, n, x, h1, Nat.le_trans h2 hN, h3⟩

theorem LeafAt.piece {N : Nat} {cs : List Value} {o m i : Nat} {u : TypeId} (h : LeafAt enc P w base spare held N ((cs.drop o).take m) i u) : LeafAt enc P w base spare held N cs (o + i) u := by
  obtain ⟨c, n, x, h1, h2, h3⟩ := h
  refine ⟨c, n, x, ?_, h2, h3⟩
  rw [List.getElem?_take] at h1
  split at h1
  · rw [List.getElem?_drop] at h1; exact h1
  · cases h1

theorem trod_flat : ∀ (m : Nat) (n : Nat) (t : TypeId) (cs : List Value) (x : DataW H × List MemPlace) (ts : List TypeId), DataW.trod enc P w base spare held n t cs = some x → flat P m t = some ts →
    cs.length = ts.length ∧ ∀ i u, ts[i]? = some u → LeafAt enc P w base spare held n cs i u := by
  intro m
  induction m with
  | zero => intro n t cs x ts _ h; simp [flat] at h
  | succ m ih =>
    intro n t cs x ts hx hf
    have one : ∀ c, cs = [c] → ts = [t] → cs.length = ts.length ∧ ∀ i u, ts[i]? = some u → LeafAt enc P w base spare held n cs i u := by
      rintro c rfl rfl
      refine ⟨rfl, fun i u hu => ?_⟩
      cases i with
      | zero => simp at hu; subst hu; exact ⟨c, n, x, rfl, Nat.le_refl _, hx⟩
      | succ i => simp at hu
    unfold flat at hf
    cases hu : P.underlying t with
    | none => simp [hu] at hf
    | some d =>
      rw [hu] at hf
      cases d with
      | bool => obtain ⟨b, rfl, _⟩ := DataW.trod_bool hu hx; exact one _ rfl (by simpa using hf.symm)
      | int k => obtain ⟨b, rfl, _⟩ := DataW.trod_int hu hx; exact one _ rfl (by simpa using hf.symm)
      | string => obtain ⟨b, rfl, _⟩ := DataW.trod_string hu hx; exact one _ rfl (by simpa using hf.symm)
      | slice e =>
        rcases DataW.trod_slice hu hx with ⟨rfl, _⟩ | ⟨a, len, cap, elems, rest, n', _, rfl, _⟩
        · exact one _ rfl (by simpa using hf.symm)
        · exact one _ rfl (by simpa using hf.symm)
      | struct fs =>
        obtain ⟨xs, n', rfl, _, hlen, hxs, hread⟩ := DataW.trod_struct hu hx
        simp only [Option.bind_eq_some_iff] at hf
        obtain ⟨l, hl, hf⟩ := hf
        split at hf
        · rename_i hll
          cases hf
          refine ⟨hlen.trans hll.symm, ?_⟩
          have key : ∀ (fl : List Field) (acc l : List TypeId), (∀ f ∈ fl, ∃ y, DataW.trod enc P w base spare held n' f.type ((cs.drop f.offset).take (P.cellsOf f.type)) = some y) →
              fl.foldlM (fun (acc : List TypeId) fld => if fld.offset = acc.length then (flat P m fld.type).bind fun l => if l.length = P.cellsOf fld.type then some (acc ++ l) else none else none) acc = some l →
              (∀ i u, acc[i]? = some u → LeafAt enc P w base spare held n' cs i u) → ∀ i u, l[i]? = some u → LeafAt enc P w base spare held n' cs i u := by
            intro fl
            induction fl with
            | nil => intro acc l _ h1 h2; simp at h1; subst h1; exact h2
            | cons f fl ih2 =>
              intro acc l hr h1 h2
              rw [List.foldlM_cons] at h1
              simp only [Option.bind_eq_bind, Option.bind_eq_some_iff] at h1
              obtain ⟨acc2, h3, h4⟩ := h1
              split at h3
              · rename_i ho
                rw [Option.bind_eq_some_iff] at h3
                obtain ⟨l2, h5, h6⟩ := h3
                split at h6
                · cases h6
                  refine ih2 _ _ (fun g hg => hr g (List.mem_cons_of_mem _ hg)) h4 fun i u hi => ?_
                  by_cases hlt : i < acc.length
                  · rw [List.getElem?_append_left hlt] at hi; exact h2 i u hi
                  · rw [List.getElem?_append_right (by omega)] at hi
                    obtain ⟨y, hy⟩ := hr f (List.mem_cons_self ..)
                    have := ((ih n' _ _ _ _ hy h5).2 _ _ hi).piece
                    rwa [ho, show acc.length + (i - acc.length) = i by omega] at this
                · cases h6
              · cases h3
          intro i u hi
          refine (key fs.toList [] _ (fun f hf => ?_) hl (fun i u h => by simp at h) i u hi).up (Nat.le_succ _)
          obtain ⟨j, hj⟩ := List.mem_iff_getElem?.1 hf
          have hj' : fs[j]? = some f := by simpa using hj
          rw [hread j f hj']
          have : j < xs.length := by
            rw [hxs]
            obtain ⟨h, _⟩ := Array.getElem?_eq_some_iff.1 hj'
            exact h
          exact ⟨_, List.getElem?_eq_getElem this⟩
        · cases hf
      | array k e =>
        obtain ⟨xs, n', rfl, _, hlen, hxs, hread⟩ := DataW.trod_array hu hx
        rw [Option.bind_eq_some_iff] at hf
        obtain ⟨l, hl, hf⟩ := hf
        split at hf
        · rename_i hll
          cases hf
          obtain ⟨e1, e2⟩ := hll
          refine ⟨by simp [hlen, e2], fun i u hi => ?_⟩
          have hpos : 0 < l.length := by
            rcases Nat.eq_zero_or_pos l.length with h0 | h0
            · have : l = [] := List.length_eq_zero_iff.1 h0
              subst this
              simp at hi
            · exact h0
          have hik : i < k * l.length := by
            have := (List.getElem?_eq_some_iff.1 hi).1
            simpa using this
          have hq : i / l.length < k := (Nat.div_lt_iff_lt_mul hpos).2 hik
          have hrep : ∀ (k i : Nat), i < k * l.length → ((List.replicate k l).flatten)[i]? = l[i % l.length]? := by
            intro k
            induction k with
            | zero => intro i h; simp at h
            | succ k ih3 =>
              intro i h
              rw [List.replicate_succ, List.flatten_cons]
              by_cases hlt : i < l.length
              · rw [List.getElem?_append_left hlt, Nat.mod_eq_of_lt hlt]
              · rw [List.getElem?_append_right (by omega), ih3 _ (by rw [Nat.add_mul, Nat.one_mul] at h; omega)]
                congr 1
                exact (Nat.mod_eq_sub_mod (by omega)).symm
          rw [hrep k i hik] at hi
          have hy := hread (i / l.length) hq
          have : i / l.length < xs.length := by omega
          rw [List.getElem?_eq_getElem this] at hy
          have := ((ih n' _ _ _ _ hy hl).2 _ _ hi).piece
          rw [← e1] at this
          have e3 : i / l.length * l.length + i % l.length = i := by rw [Nat.mul_comm]; exact Nat.div_add_mod _ _
          rw [e3] at this
          exact this.up (Nat.le_succ _)
        · cases hf
      | _ => simp at hf
end Go.Am
