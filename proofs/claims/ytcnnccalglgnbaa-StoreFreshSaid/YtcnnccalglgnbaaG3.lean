import Derived.ProofKit
import Derived.OpenShut
import Derived.SizedLaws
import Derived.Below
import Derived.Carry
import Derived.LoopN
import Derived.LaidMore
import Derived.ChangeArms
import Derived.RangeFuncIn
import Derived.RangeFuncRecord
import Derived.RangeFuncLeaves
import Derived.RangeFuncNested
import Derived.Shelf.SlSortCmp.NoneTotal
import Derived.Sort.LotA
import Derived.Test.YtcnnccalglgnbaaG2
set_option linter.unusedVariables false
set_option linter.unusedSimpArgs false
/- From what is read of an argument to an abstract value. -/
namespace Go.Am
open Go
/-- cells that are told of alone, and rows of such -/
def okLeaf (P : Program) : Nat → TypeId → Bool
  | 0, _ => false
  | m + 1, t =>
    match P.underlying t with
    | some .bool | some (.int _) | some .string => true
    | some (.slice e) => match flat P 8 e with
      | some l => l.length != 0 && l.length == P.cellsOf e && l.all (okLeaf P m)
      | none => false
    | _ => false
/-- what is known of a cell that came in: all of it, axs a value -/
inductive TLeaf (P : Program) : TypeId → Value → Prop
  | bool {t : TypeId} (b : Bool) (hu : P.underlying t = some .bool) : TLeaf P t (.bool b)
  | int {t : TypeId} {k : IntKind} (n : Int) (hu : P.underlying t = some (.int k)) (hw : (Lit.int k n).wf = true) : TLeaf P t (.int k n)
  | string {t : TypeId} (s : ByteArray) (hu : P.underlying t = some .string) (hs : s.size ≤ maxLen) : TLeaf P t (.string s)
  | nil {t e : TypeId} (hu : P.underlying t = some (.slice e)) : TLeaf P t (.slice none 0 0)
  | slice {t e : TypeId} (l : List TypeId) (len : Nat) (c : Array Value) (hu : P.underlying t = some (.slice e)) (hl : flat P 8 e = some l) (he : P.cellsOf e = l.length) (h0 : l.length ≠ 0) (hm : len ≤ maxLen ∧ len * P.bytesOf e ≤ reachBytes)
      (hc : c.size = len * l.length) (hall : ∀ i j, i < len → j < l.length → TLeaf P (l.getD j 0) (c.getD (i * l.length + j) junk)) : TLeaf P t (fz c len)
variable {H : Type} {enc : TypeId × Value → H} {P : Program} {w : World} {base : Nat} {spare : Nat → Bool} {held : Bool}
/-- what was read weighs no more than a machine holds -/
def Light (P : Program) (t : TypeId) (d : DataW H) : Prop := ∀ n ∈ d.weights P t, n ≤ reachBytes
theorem weights_mem_all {e : TypeId} : ∀ {ds : List (DataW H)} {j : Nat} {d : DataW H}, ds[j]? = some d → ∀ n ∈ d.weights P e, n ∈ DataW.weightsAll P e ds
  | d0 :: ds, 0, d, hd, n, hn => by
    simp only [List.getElem?_cons_zero, Option.some.injEq] at hd
    subst hd
    simp only [DataW.weightsAll, List.mem_append]
    exact Or.inl hn
  | d0 :: ds, j + 1, d, hd, n, hn => by
    simp only [List.getElem?_cons_succ] at hd
    simp only [DataW.weightsAll, List.mem_append]
    exact Or.inr (weights_mem_all hd n hn)
  | [], _, _, hd, _, _ => by simp at hd
theorem Light.field {t : TypeId} {fs : Array Field} (ht : P.underlying t = some (.struct fs)) {xs : List (DataW H)} (h : Light P t (.agg xs)) {i : Nat} {f : Field} {d : DataW H} (hf : fs[i]? = some f) (hd : xs[i]? = some d) : Light P f.type d := by
  intro n hn
  refine h n ?_
  simp only [DataW.weights, ht]
  exact DataW.weights_mem_each (j := i) (by simpa using congrArg (Option.map (·.type)) hf) hd n hn
theorem Light.elem {t e : TypeId} {k : Nat} (ht : P.underlying t = some (.array k e)) {xs : List (DataW H)} (h : Light P t (.agg xs)) {i : Nat} {d : DataW H} (hd : xs[i]? = some d) : Light P e d := by
  intro n hn
  refine h n ?_
  simp only [DataW.weights, ht]
  exact weights_mem_all hd n hn
theorem Light.slice {t e : TypeId} (ht : P.underlying t = some (.slice e)) {xs ys : List (DataW H)} (h : Light P t (.slice xs ys)) : (xs.length + ys.length) * P.bytesOf e ≤ reachBytes ∧ ∀ (i : Nat) (d : DataW H), xs[i]? = some d → Light P e d := by
  refine ⟨h _ (by simp only [DataW.weights, ht]; exact List.mem_cons_self ..), fun i d hd n hn => h n ?_⟩
  simp only [DataW.weights, ht]
  exact List.mem_cons_of_mem _ (List.mem_append_left _ (weights_mem_all hd n hn))
/-- what is read of one cell -/
def LeafAt (enc : TypeId × Value → H) (P : Program) (w : World) (base : Nat) (spare : Nat → Bool) (held : Bool) (N : Nat) (cs : List Value) (i : Nat) (u : TypeId) : Prop :=
  ∃ c n x, cs[i]? = some c ∧ n ≤ N ∧ DataW.trod enc P w base spare held n u [c] = some x ∧ Light P u x.1
theorem LeafAt.up {N N' : Nat} (hN : N ≤ N') {cs : List Value} {i : Nat} {u : TypeId} (h : LeafAt enc P w base spare held N cs i u) : LeafAt enc P w base spare held N' cs i u :=
  let ⟨c, n, x, h1, h2, h3, h4⟩ := h; ⟨c, n, x, h1, Nat.le_trans h2 hN, h3, h4⟩
theorem LeafAt.piece {N : Nat} {cs : List Value} {o m i : Nat} {u : TypeId} (h : LeafAt enc P w base spare held N ((cs.drop o).take m) i u) : LeafAt enc P w base spare held N cs (o + i) u := by
  obtain ⟨c, n, x, h1, h2, h3⟩ := h
  refine ⟨c, n, x, ?_, h2, h3⟩
  rw [List.getElem?_take] at h1
  split at h1
  · rw [List.getElem?_drop] at h1; exact h1
  · cases h1
theorem trod_flat : ∀ (m : Nat) (n : Nat) (t : TypeId) (cs : List Value) (x : DataW H × List MemPlace) (ts : List TypeId), DataW.trod enc P w base spare held n t cs = some x → Light P t x.1 → flat P m t = some ts →
    cs.length = ts.length ∧ ∀ i u, ts[i]? = some u → LeafAt enc P w base spare held n cs i u := by
  intro m
  induction m with
  | zero => intro n t cs x ts _ _ h; simp [flat] at h
  | succ m ih =>
    intro n t cs x ts hx hL hf
    have one : ∀ c, cs = [c] → ts = [t] → cs.length = ts.length ∧ ∀ i u, ts[i]? = some u → LeafAt enc P w base spare held n cs i u := by
      rintro c rfl rfl
      refine ⟨rfl, fun i u hu => ?_⟩
      cases i with
      | zero => simp at hu; subst hu; exact ⟨c, n, x, rfl, Nat.le_refl _, hx, hL⟩
      | succ i => simp at hu
    unfold flat at hf
    cases hu : P.underlying t with
    | none => simp [hu] at hf
    | some d =>
      rw [hu] at hf
      cases d with
      | bool => obtain ⟨b, rfl, _⟩ := DataW.trod_bool hu hx; exact one _ rfl (by simpa using hf.symm)
      | int k => obtain ⟨b, rfl, _⟩ := DataW.trod_int hu hx; exact one _ rfl (by simpa using hf.symm)
      | string => obtain ⟨b, rfl, _⟩ := DataW.trod_string hu hx; exact one _ rfl (by simpa using hf.symm)
      | slice e =>
        rcases DataW.trod_slice hu hx with ⟨rfl, _⟩ | ⟨a, len, cap, elems, rest, n', _, rfl, _⟩
        · exact one _ rfl (by simpa using hf.symm)
        · exact one _ rfl (by simpa using hf.symm)
      | struct fs =>
        obtain ⟨xs, n', rfl, hxe, hlen, hxs, hread⟩ := DataW.trod_struct hu hx
        rw [hxe] at hL
        simp only [Option.bind_eq_some_iff] at hf
        obtain ⟨l, hl, hf⟩ := hf
        split at hf
        · rename_i hll
          cases hf
          refine ⟨hlen.trans hll.symm, ?_⟩
          have key : ∀ (fl : List Field) (acc l : List TypeId), (∀ f ∈ fl, ∃ y, DataW.trod enc P w base spare held n' f.type ((cs.drop f.offset).take (P.cellsOf f.type)) = some y ∧ Light P f.type y.1) →
              fl.foldlM (fun (acc : List TypeId) fld => if fld.offset = acc.length then (flat P m fld.type).bind fun l => if l.length = P.cellsOf fld.type then some (acc ++ l) else none else none) acc = some l →
              (∀ i u, acc[i]? = some u → LeafAt enc P w base spare held n' cs i u) → ∀ i u, l[i]? = some u → LeafAt enc P w base spare held n' cs i u := by
            intro fl
            induction fl with
            | nil => intro acc l _ h1 h2; simp at h1; subst h1; exact h2
            | cons f fl ih2 =>
              intro acc l hr h1 h2
              rw [List.foldlM_cons] at h1
              simp only [Option.bind_eq_bind, Option.bind_eq_some_iff] at h1
              obtain ⟨acc2, h3, h4⟩ := h1
              split at h3
              · rename_i ho
                rw [Option.bind_eq_some_iff] at h3
                obtain ⟨l2, h5, h6⟩ := h3
                split at h6
                · cases h6
                  refine ih2 _ _ (fun g hg => hr g (List.mem_cons_of_mem _ hg)) h4 fun i u hi => ?_
                  by_cases hlt : i < acc.length
                  · rw [List.getElem?_append_left hlt] at hi; exact h2 i u hi
                  · rw [List.getElem?_append_right (by omega)] at hi
                    obtain ⟨y, hy, hyL⟩ := hr f (List.mem_cons_self ..)
                    have := ((ih n' _ _ _ _ hy hyL h5).2 _ _ hi).piece
                    rwa [ho, show acc.length + (i - acc.length) = i by omega] at this
                · cases h6
              · cases h3
          intro i u hi
          refine (key fs.toList [] _ (fun f hf => ?_) hl (fun i u h => by simp at h) i u hi).up (Nat.le_succ _)
          obtain ⟨j, hj⟩ := List.mem_iff_getElem?.1 hf
          have hj' : fs[j]? = some f := by simpa using hj
          rw [hread j f hj']
          have : j < xs.length := by
            rw [hxs]
            obtain ⟨h, _⟩ := Array.getElem?_eq_some_iff.1 hj'
            exact h
          exact ⟨_, List.getElem?_eq_getElem this, hL.field hu hj' (by rw [List.getElem?_map, List.getElem?_eq_getElem this]; rfl)⟩
        · cases hf
      | array k e =>
        obtain ⟨xs, n', rfl, hxe, hlen, hxs, hread⟩ := DataW.trod_array hu hx
        rw [hxe] at hL
        rw [Option.bind_eq_some_iff] at hf
        obtain ⟨l, hl, hf⟩ := hf
        split at hf
        · rename_i hll
          cases hf
          obtain ⟨e1, e2⟩ := hll
          refine ⟨by simp [hlen, e2], fun i u hi => ?_⟩
          have hpos : 0 < l.length := by
            rcases Nat.eq_zero_or_pos l.length with h0 | h0
            · have : l = [] := List.length_eq_zero_iff.1 h0
              subst this
              simp at hi
            · exact h0
          have hik : i < k * l.length := by
            have := (List.getElem?_eq_some_iff.1 hi).1
            simpa using this
          have hq : i / l.length < k := (Nat.div_lt_iff_lt_mul hpos).2 hik
          have hrep : ∀ (k i : Nat), i < k * l.length → ((List.replicate k l).flatten)[i]? = l[i % l.length]? := by
            intro k
            induction k with
            | zero => intro i h; simp at h
            | succ k ih3 =>
              intro i h
              rw [List.replicate_succ, List.flatten_cons]
              by_cases hlt : i < l.length
              · rw [List.getElem?_append_left hlt, Nat.mod_eq_of_lt hlt]
              · rw [List.getElem?_append_right (by omega), ih3 _ (by rw [Nat.add_mul, Nat.one_mul] at h; omega)]
                congr 1
                exact (Nat.mod_eq_sub_mod (by omega)).symm
          rw [hrep k i hik] at hi
          have hy := hread (i / l.length) hq
          have : i / l.length < xs.length := by omega
          rw [List.getElem?_eq_getElem this] at hy
          have := ((ih n' _ _ _ _ hy (hL.elem hu (i := i / l.length) (by rw [List.getElem?_map, List.getElem?_eq_getElem ‹i / l.length < xs.length›]; rfl)) hl).2 _ _ hi).piece
          rw [← e1] at this
          have e3 : i / l.length * l.length + i % l.length = i := by rw [Nat.mul_comm]; exact Nat.div_add_mod _ _
          rw [e3] at this
          exact this.up (Nat.le_succ _)
        · cases hf
      | _ => simp at hf
end Go.Am

set_option linter.unusedVariables false
set_option linter.unusedSimpArgs false
/- From what is read of an argument to an abstract value: rows in memory. -/
namespace Go.Am
open Go
/-- nothing that may be written -/
def NoRW (h : AH) : Prop := ∀ (b : Nat) (o : AObj), h[b]? = some o → o.rw = false
theorem NoRW.append {h l : AH} (h1 : NoRW h) (h2 : NoRW l) : NoRW (h ++ l) := fun b o hb => by
  by_cases hlt : b < h.length
  · rw [List.getElem?_append_left hlt] at hb; exact h1 b o hb
  · rw [List.getElem?_append_right (by omega)] at hb; exact h2 _ o hb
theorem NoRW.one {o : AObj} (h : o.rw = false) : NoRW [o] := fun b o' hb => by
  cases b with
  | zero => simp at hb; subst hb; exact h
  | succ b => simp at hb
/-- one more row is known for ever -/
def Emb.know (f : Emb) (r : Nat) (c : Array Value) : Emb := ⟨f.img, fun q => if q = r then some c else f.rom q⟩
theorem Sim.know {P : Program} {f : Emb} {h : AH} {w : World} (hs : Sim P f h w) {r : Nat} {c : Array Value} {el : TypeId} {fr : Nat × Nat} (hr : w.heap[r]? = some (.cells c el fr)) (hno : ∀ b o, h[b]? = some o → o.rw = true → (f b).blk ≠ r) :
    Sim P (f.know r c) h w ∧ ∀ L, Emb.Agree L f (f.know r c) := by
  have hag : ∀ L, Emb.Agree L f (f.know r c) := fun L => ⟨fun _ _ => rfl, fun q ds e => by
    show (if q = r then some c else f.rom q) = some ds
    split
    · rename_i hq
      subst hq
      obtain ⟨⟨el2, fr2, h1⟩, _⟩ := hs.rom q ds e
      rw [hr] at h1
      cases h1; rfl
    · exact e⟩
  refine ⟨⟨fun b o hb ha => ?_, hs.sep, hs.glob, hs.size, fun q ds e => ?_, hs.laid, hs.ok⟩, hag⟩
  · obtain ⟨o', h1, h2⟩ := hs.obj b o hb ha
    exact ⟨o', h1, h2.mono (Nat.le_refl _) (hag _)⟩
  · change (if q = r then some c else f.rom q) = some ds at e
    split at e
    · rename_i hq
      subst hq
      cases e
      exact ⟨⟨el, fr, hr⟩, hno⟩
    · exact hs.rom q ds e
/-- more is known of one world -/
structure Ext (P : Program) (w : World) (f : Emb) (h : AH) (f' : Emb) : Prop where
  sim : Sim P f' h w
  agree : Emb.Agree h.length f f'
theorem Ext.refl {P : Program} {w : World} {f : Emb} {h : AH} (hs : Sim P f h w) : Ext P w f h f := ⟨hs, .refl _ _⟩
theorem Ext.trans {P : Program} {w : World} {f f1 f2 : Emb} {h : AH} (e1 : Ext P w f h f1) (e2 : Ext P w f1 h f2) : Ext P w f h f2 :=
  ⟨e2.sim, e1.agree.trans e2.agree (Nat.le_refl _)⟩
def Told (P : Program) (w : World) (f : Emb) (h : AH) (t : TypeId) (v : Value) : Prop :=
  ∃ f' v', Ext P w f h f' ∧ VRel f' h.length v' v ∧ TLeaf P t v'
theorem rows_abs {P : Program} {w : World} {Rd : TypeId → Value → Prop} (habs : ∀ t v, Rd t v → v.oneCell' = true ∧ ∀ f h, Sim P f h w → NoRW h → Told P w f h t v) :
    ∀ (us : List TypeId) (vs : List Value), us.length = vs.length → (∀ (i : Nat) (u : TypeId) (v : Value), us[i]? = some u → vs[i]? = some v → Rd u v) → ∀ f h, Sim P f h w → NoRW h →
      ∃ (f' : Emb) (vs' : List Value), Ext P w f h f' ∧ vs'.length = vs.length ∧ (∀ i : Nat, VRel f' h.length (vs'.getD i junk) (vs.getD i junk) ∧ (i < vs.length → (vs.getD i junk).oneCell' = true)) ∧ ∀ i, i < us.length → TLeaf P (us.getD i 0) (vs'.getD i junk) := by
  intro us
  induction us with
  | nil =>
    intro vs hl _ f h hs hn
    cases vs with
    | nil => exact ⟨f, [], .refl hs, rfl, fun i => ⟨by simp; exact .junk _, fun h => by simp at h⟩, fun i h => by simp at h⟩
    | cons v vs => simp at hl
  | cons u us ih =>
    intro vs hl hr f h hs hn
    cases vs with
    | nil => simp at hl
    | cons v vs =>
      obtain ⟨h1, f1, v1, e1, r1, a1⟩ := let x := habs u v (hr 0 u v rfl rfl); (⟨x.1, x.2 f h hs hn⟩ : _ ∧ _)
      obtain ⟨f2, vs2, e2, hlen, r2, a2⟩ := ih vs (by simpa using hl) (fun i u v hu hv => hr (i + 1) u v (by simpa using hu) (by simpa using hv)) f1 h e1.sim hn
      refine ⟨f2, v1 :: vs2, e1.trans e2, by simp [hlen], fun i => ?_, fun i hi => ?_⟩
      · cases i with
        | zero => exact ⟨by simpa using r1.mono (Nat.le_refl _) e2.agree, fun _ => by simpa using h1⟩
        | succ i => simpa using r2 i
      · cases i with
        | zero => simpa using a1
        | succ i => simpa using a2 i (by simpa using hi)
variable {H : Type} {enc : TypeId × Value → H} {P : Program} {w : World} {base : Nat} {spare : Nat → Bool} {held : Bool}
theorem cell_of {w : World} {a : Addr} {v : Value} (h : w.cell? a = some v) : a.spot = none ∧ ∃ c el fr, w.heap[a.block]? = some (.cells c el fr) ∧ c[a.off]? = some v := by
  unfold World.cell? at h
  split at h
  · rename_i c el fr hc
    split at h
    · cases h
    · rename_i hsp
      exact ⟨by simpa using hsp, c, el, fr, hc, h⟩
  · cases h
theorem leaf_abs (hspare : ∀ b, spare b = true) : ∀ (N n m : Nat) (t : TypeId) (v : Value) (x : DataW H × List MemPlace), n ≤ N → DataW.trod enc P w base spare held n t [v] = some x → Light P t x.1 → okLeaf P m t = true →
    v.oneCell' = true ∧ ∀ f h, Sim P f h w → NoRW h → Told P w f h t v := by
  intro N
  induction N with
  | zero =>
    intro n m t v x hn hx _
    obtain rfl : n = 0 := by omega
    simp [DataW.trod] at hx
  | succ N ih =>
    intro n m t v x hn hx hL ho
    have plain : ∀ f h, Sim P f h w → (∀ f L, VRel f L v v) → TLeaf P t v → Told P w f h t v := fun f h hs hv hl => ⟨f, v, .refl hs, hv _ _, hl⟩
    cases m with
    | zero => simp [okLeaf] at ho
    | succ m =>
      unfold okLeaf at ho
      cases hu : P.underlying t with
      | none => simp [hu] at ho
      | some d =>
        rw [hu] at ho
        cases d with
        | bool =>
          obtain ⟨b, e, _⟩ := DataW.trod_bool hu hx
          cases e
          exact ⟨rfl, fun f h hs _ => plain f h hs (fun _ _ => .bool b) (.bool b hu)⟩
        | int k =>
          obtain ⟨b, e, _, hw⟩ := DataW.trod_int hu hx
          cases e
          exact ⟨rfl, fun f h hs _ => plain f h hs (fun _ _ => .int k b) (.int b hu hw)⟩
        | string =>
          obtain ⟨b, e, _, hw⟩ := DataW.trod_string hu hx
          cases e
          exact ⟨rfl, fun f h hs _ => plain f h hs (fun _ _ => .string b) (.string b hu hw)⟩
        | slice e =>
          simp only at ho
          cases hf : flat P 8 e with
          | none => simp [hf] at ho
          | some l =>
            simp only [hf, Bool.and_eq_true, bne_iff_ne, ne_eq, beq_iff_eq] at ho
            obtain ⟨⟨h0, he⟩, hall⟩ := ho
            rcases DataW.trod_slice hu hx with ⟨e1, _⟩ | ⟨a, len, cap, elems, rest, n', rfl, e1, hxe, _, hlc, hmax, hel, hread, hrest, _⟩
            · cases e1
              exact ⟨rfl, fun f h hs _ => plain f h hs (fun _ _ => .nilSlice 0 0) (.nil hu)⟩
            · cases e1
              rw [hxe] at hL
              obtain ⟨hL1, hL2⟩ := hL.slice hu
              simp only [List.length_map] at hL1
              have hlb : len * P.bytesOf e ≤ reachBytes := Nat.le_trans (Nat.mul_le_mul_right _ (by omega)) hL1
              refine ⟨rfl, fun f h hs hno => ?_⟩
              by_cases hz : len = 0
              · subst hz
                exact ⟨f, fz #[] 0, .refl hs, .fz0 a cap, .slice l 0 #[] hu hf he.symm h0 ⟨Nat.zero_le _, by simp⟩ (by simp) fun i j hi => by omega⟩
              · have hcell : ∀ i j, i < len → j < l.length → ∃ c n2 y, w.cell? ((a.add (i * l.length)).add j) = some c ∧ n2 ≤ N ∧ DataW.trod enc P w base spare held n2 (l.getD j 0) [c] = some y ∧ Light P (l.getD j 0) y.1 := by
                  intro i j hi hj
                  have h1 := hread i hi
                  rw [List.getElem?_eq_getElem (by omega), Option.bind_eq_some_iff] at h1
                  obtain ⟨cs, hcs, hy⟩ := h1
                  obtain ⟨_, hcl, hcg⟩ := World.cells?_some hcs
                  obtain ⟨c, n2, y, h2, h3, h4⟩ := (trod_flat 8 _ _ _ _ _ hy (hL2 i _ (by rw [List.getElem?_map, List.getElem?_eq_getElem (by omega)]; rfl)) hf).2 j (l.getD j 0) (by rw [List.getElem?_eq_getElem hj]; simp [List.getD, hj])
                  rw [← he] at hcg hcl
                  exact ⟨c, n2, y, by rw [hcg j hj, h2], by omega, h4⟩
                obtain ⟨c0, _, _, hc0, _⟩ := hcell 0 0 (by omega) (by omega)
                obtain ⟨hsp, c', el, fr, hblk, _⟩ := cell_of hc0
                obtain ⟨ab, ao, axs⟩ := a
                simp only [Nat.zero_mul, Addr.add, if_true] at hsp hblk
                subst hsp
                have hget : ∀ i j, i < len → j < l.length → ∃ c n2 y, c'[ao + (i * l.length + j)]? = some c ∧ n2 ≤ N ∧ DataW.trod enc P w base spare held n2 (l.getD j 0) [c] = some y ∧ Light P (l.getD j 0) y.1 := by
                  intro i j hi hj
                  obtain ⟨c, n2, y, h1, h2, h3⟩ := hcell i j hi hj
                  refine ⟨c, n2, y, ?_, h2, h3⟩
                  obtain ⟨_, c2, el2, fr2, h4, h5⟩ := cell_of h1
                  have e1 : (((⟨ab, ao, none⟩ : Addr).add (i * l.length)).add j).block = ab := by unfold Addr.add; split <;> split <;> rfl
                  have e2 : (((⟨ab, ao, none⟩ : Addr).add (i * l.length)).add j).off = ao + (i * l.length + j) := by unfold Addr.add; split <;> split <;> simp_all <;> omega
                  rw [e1, hblk] at h4
                  rw [e2] at h5
                  cases h4
                  exact h5
                have hpos : 0 < l.length := by omega
                let us := (List.range (len * l.length)).map fun q => l.getD (q % l.length) 0
                let vs := (List.range (len * l.length)).map fun q => c'.getD (ao + q) junk
                have hq : ∀ q, q < len * l.length → ∃ c n2 y, c'[ao + q]? = some c ∧ n2 ≤ N ∧ DataW.trod enc P w base spare held n2 (l.getD (q % l.length) 0) [c] = some y ∧ Light P (l.getD (q % l.length) 0) y.1 := by
                  intro q hq
                  have := hget (q / l.length) (q % l.length) ((Nat.div_lt_iff_lt_mul hpos).2 hq) (Nat.mod_lt _ hpos)
                  rwa [show q / l.length * l.length + q % l.length = q by rw [Nat.mul_comm]; exact Nat.div_add_mod _ _] at this
                obtain ⟨f1, vs1, e1, hl1, r1, a1⟩ := rows_abs (P := P) (w := w) (Rd := fun t v => ∃ n2 y, n2 ≤ N ∧ (DataW.trod enc P w base spare held n2 t [v] = some y ∧ Light P t y.1) ∧ okLeaf P m t = true)
                  (fun t v ⟨n2, y, h1, h2, h3⟩ => ih n2 m t v y h1 h2.1 h2.2 h3) us vs (by simp [us, vs]) (by
                    intro i u v hu hv
                    have hi : i < len * l.length := by
                      have := (List.getElem?_eq_some_iff.1 hu).1
                      simpa [us] using this
                    obtain ⟨c, n2, y, h1, h2, h3⟩ := hq i hi
                    simp only [us, vs, List.getElem?_map, List.getElem?_range hi, Option.map_some, Option.some.injEq] at hu hv
                    subst hu; subst hv
                    refine ⟨n2, y, h2, by rw [show c'.getD (ao + i) junk = c by simp [Array.getD_eq_getD_getElem?, h1]]; exact h3, ?_⟩
                    rw [List.all_eq_true] at hall
                    refine hall _ ?_
                    have : i % l.length < l.length := Nat.mod_lt _ hpos
                    simp only [List.getD, List.getElem?_eq_getElem this, Option.getD_some]
                    exact List.getElem_mem _) f h hs hno
                have hvl : vs1.length = len * l.length := by rw [hl1]; simp [vs]
                have hcap : len * l.length ≤ cap * l.length := Nat.mul_le_mul_right _ hlc
                have hsz : ao + len * l.length ≤ c'.size := by
                  have hlast : len * l.length - 1 < len * l.length := by
                    have := Nat.mul_pos (Nat.pos_of_ne_zero hz) hpos
                    omega
                  obtain ⟨c, _, _, h1, _⟩ := hq (len * l.length - 1) hlast
                  have := (Array.getElem?_eq_some_iff.1 h1).1
                  omega
                obtain ⟨k1, k2⟩ := e1.sim.know hblk (fun b o hb ho => by rw [hno b o hb] at ho; cases ho)
                refine ⟨f1.know ab c', fz vs1.toArray len, e1.trans ⟨k1, k2 _⟩, ?_, ?_⟩
                · refine .fz _ _ ab ao _ c' (by simp [Emb.know]) (by simp [hvl]; exact hsz) hlc (fun i => ?_) (fun i hi => ?_)
                  · by_cases hi : i < vs1.toArray.size
                    · rw [if_pos hi]
                      have hi' : i < len * l.length := by simpa [hvl] using hi
                      have := (r1 i).1.mono (Nat.le_refl _) (k2 h.length)
                      have e2 : vs.getD i junk = c'.getD (ao + i) junk := by simp [vs, List.getD, hi']
                      rw [e2] at this
                      have e3 : vs1.toArray.getD i junk = vs1.getD i junk := by simp [Array.getD_eq_getD_getElem?, List.getD]
                      rw [e3]
                      exact this
                    · rw [getD_ge i hi]; exact .junk _
                  · have hi' : i < len * l.length := by simpa [hvl] using hi
                    have e2 : vs.getD i junk = c'.getD (ao + i) junk := by simp [vs, List.getD, hi']
                    rw [← e2]
                    exact (r1 i).2 (by simp [vs]; exact hi')
                · refine TLeaf.slice l len vs1.toArray hu hf he.symm h0 ⟨by omega, hlb⟩ (by simp [hvl]) fun i j hi hj => ?_
                  have hij : i * l.length + j < len * l.length := by
                    have : (i + 1) * l.length ≤ len * l.length := Nat.mul_le_mul_right _ hi
                    rw [Nat.add_mul, Nat.one_mul] at this
                    omega
                  have := a1 (i * l.length + j) (by simp [us]; exact hij)
                  have e2 : us.getD (i * l.length + j) 0 = l.getD j 0 := by
                    simp only [us, List.getD, List.getElem?_map, List.getElem?_range hij, Option.map_some, Option.getD_some]
                    rw [Nat.mul_comm, Nat.mul_add_mod, Nat.mod_eq_of_lt hj]
                  have e3 : vs1.toArray.getD (i * l.length + j) junk = vs1.getD (i * l.length + j) junk := by simp [Array.getD_eq_getD_getElem?, List.getD]
                  rw [e2] at this
                  rw [e3]
                  exact this
        | _ => simp at ho
end Go.Am

set_option linter.unusedVariables false
set_option linter.unusedSimpArgs false
/- Arguments; a law. -/
namespace Go.Am
open Go Go.RowKit
/-- an argument whose type is told of -/
def okArg (P : Program) (t : TypeId) : Bool := match flat P 8 t with
  | some l => l.all (okLeaf P 8)
  | none => false
/-- what is known of an argument -/
def TArg (P : Program) (t : TypeId) (v : Value) : Prop :=
  match P.underlying t with
  | some (.struct _) | some (.array _ _) => ∃ l cs, flat P 8 t = some l ∧ v = .agg cs ∧ cs.size = l.length ∧ ∀ i, i < l.length → TLeaf P (l.getD i 0) (cs.getD i junk)
  | _ => TLeaf P t v
variable {H : Type} {enc : TypeId × Value → H} {P : Program} {w : World} {spare : Nat → Bool} {held : Bool}
theorem arg_abs (hspare : ∀ b, spare b = true) {t : TypeId} {v : Value} {d : DataW H} {ps : List MemPlace} {r : Reach} {b0 : Nat} (ho : okArg P t = true) (hw : Value.okWide P w r b0 t v) (hr : DataW.Trod enc P w 0 spare held t v d ps) (hz : Light P t d)
    (f : Emb) (h : AH) (hs : Sim P f h w) (hn : NoRW h) : ∃ f' v', Ext P w f h f' ∧ VRel f' h.length v' v ∧ TArg P t v' := by
  obtain ⟨n, hn2⟩ := hr
  unfold okArg at ho
  cases hf : flat P 8 t with
  | none => simp [hf] at ho
  | some l =>
    simp only [hf, List.all_eq_true] at ho
    obtain ⟨hlen, hleaf⟩ := trod_flat 8 n t _ _ _ hn2 hz hf
    have row : ∀ cs : Array Value, v.cells.toList = cs.toList → ∃ (f' : Emb) (cs' : List Value), Ext P w f h f' ∧ cs'.length = cs.size ∧ (∀ i : Nat, VRel f' h.length (cs'.getD i junk) (cs.getD i junk) ∧ (i < cs.size → (cs.getD i junk).oneCell' = true)) ∧ ∀ i, i < l.length → TLeaf P (l.getD i 0) (cs'.getD i junk) := by
      intro cs hcs
      rw [hcs] at hlen hleaf
      obtain ⟨f1, vs1, e1, h1, h2, h3⟩ := rows_abs (P := P) (w := w) (Rd := fun t v => ∃ n y, (DataW.trod enc P w 0 spare held n t [v] = some y ∧ Light P t y.1) ∧ okLeaf P 8 t = true)
        (fun t v ⟨n2, y, h2, h3⟩ => leaf_abs hspare n2 n2 8 t v y (Nat.le_refl _) h2.1 h2.2 h3) l cs.toList hlen.symm (fun i u v hu hv => by
          obtain ⟨c, n2, y, h1, h2, h3⟩ := hleaf i u hu
          rw [hv] at h1
          cases h1
          exact ⟨n2, y, h3, ho u (List.mem_of_getElem? hu)⟩) f h hs hn
      have e : ∀ i, cs.toList.getD i junk = cs.getD i junk := fun i => by simp [Array.getD_eq_getD_getElem?, List.getD]
      refine ⟨f1, vs1, e1, by simpa using h1, fun i => ?_, h3⟩
      have := h2 i
      rw [e i] at this
      simpa using this
    have single : (∀ fs, P.underlying t ≠ some (.struct fs)) → (∀ k e, P.underlying t ≠ some (.array k e)) → l = [t] := by
      intro h1 h2
      unfold flat at hf
      cases hu : P.underlying t with
      | none => simp [hu] at hf
      | some d => cases d <;> simp_all
    have agg : ∀ cs : Array Value, v = .agg cs → ∃ f' v', Ext P w f h f' ∧ VRel f' h.length v' v ∧ ∃ l cs, flat P 8 t = some l ∧ v' = .agg cs ∧ cs.size = l.length ∧ ∀ i, i < l.length → TLeaf P (l.getD i 0) (cs.getD i junk) := by
      rintro cs rfl
      obtain ⟨f1, cs', e1, h1, h2, h3⟩ := row cs rfl
      have e : ∀ i, cs'.toArray.getD i junk = cs'.getD i junk := fun i => by simp [Array.getD_eq_getD_getElem?, List.getD]
      have hsz : cs.size = l.length := by simpa [Value.cells] using hlen
      refine ⟨f1, .agg cs'.toArray, e1, .agg _ _ (by simpa using h1) (fun i => by rw [e]; exact (h2 i).1) (fun i => ?_), l, cs'.toArray, hf, rfl, by simp [h1, hsz], fun i hi => by rw [e]; exact h3 i hi⟩
      by_cases hi : i < cs.size
      · exact (h2 i).2 hi
      · rw [getD_ge i (by omega)]; rfl
    have cell : l = [t] → TLeaf P t v ∨ True → v.cells = #[v] → ∃ f' v', Ext P w f h f' ∧ VRel f' h.length v' v ∧ TLeaf P t v' := by
      intro hl _ hv
      subst hl
      obtain ⟨f1, cs', e1, h1, h2, h3⟩ := row #[v] (by rw [hv])
      exact ⟨f1, cs'.getD 0 junk, e1, by simpa using (h2 0).1, by simpa using h3 0 (by simp)⟩
    cases hu : P.underlying t with
    | none => unfold flat at hf; simp [hu] at hf
    | some dd =>
      have notagg : (∀ fs, dd ≠ .struct fs) → (∀ k e, dd ≠ .array k e) → v.cells = #[v] := by
        intro h1 h2
        have hl := single (fun fs => by rw [hu]; exact fun e => h1 fs (Option.some.inj e)) (fun k e => by rw [hu]; exact fun e' => h2 k e (Option.some.inj e'))
        cases v with
        | agg cs =>
          exfalso
          simp only [Value.okWide, hu] at hw
          cases dd <;> simp_all [Cell.okWide, Cell.ok]
        | _ => rfl
      unfold TArg
      rw [hu]
      cases dd with
      | struct fs =>
        simp only [Value.okWide, hu] at hw
        obtain ⟨cs, hv, _⟩ := hw
        exact agg cs hv
      | array k e =>
        simp only [Value.okWide, hu] at hw
        obtain ⟨cs, hv, _⟩ := hw
        exact agg cs hv
      | _ => exact cell (single (fun fs => by rw [hu]; exact fun e => by cases e) (fun k e => by rw [hu]; exact fun e => by cases e)) (.inr trivial) (notagg (fun _ e => by cases e) (fun _ _ e => by cases e))
/-- what is known of all arguments -/
inductive TArgs (P : Program) : List TypeId → List Value → Prop
  | nil : TArgs P [] []
  | cons {t : TypeId} {ts : List TypeId} {v : Value} {vs : List Value} (ha : TArg P t v) (hr : TArgs P ts vs) : TArgs P (t :: ts) (v :: vs)
theorem args_abs (hspare : ∀ b, spare b = true) {r : Reach} {b0 : Nat} : ∀ (ts : List TypeId) (vs : List Value) (ds : List (DataW H)) (ps : List MemPlace), (∀ t ∈ ts, okArg P t = true) →
    (∀ (j : Nat) t v, ts[j]? = some t → vs[j]? = some v → Value.okWide P w r b0 t v) → DataW.TrodAll enc P w 0 spare held ts vs ds ps → (∀ n ∈ DataW.weightsEach P ts ds, n ≤ reachBytes) →
    ∀ (f : Emb) (h : AH), Sim P f h w → NoRW h → ∃ (f' : Emb) (vs' : List Value), Ext P w f h f' ∧ vs'.length = vs.length ∧ (∀ i : Nat, VRel f' h.length (vs'.getD i junk) (vs.getD i junk)) ∧ TArgs P ts vs' := by
  intro ts
  induction ts with
  | nil =>
    intro vs ds ps _ _ hT _ f h hs hn
    cases vs with
    | nil => exact ⟨f, [], .refl hs, rfl, fun i => by simp; exact .junk _, .nil⟩
    | cons v vs => cases ds <;> simp [DataW.TrodAll] at hT
  | cons t ts ih =>
    intro vs ds ps ho hv hT hz f h hs hn
    cases vs with
    | nil => cases ds <;> simp [DataW.TrodAll] at hT
    | cons v vs =>
      cases ds with
      | nil => simp [DataW.TrodAll] at hT
      | cons d ds =>
        obtain ⟨p, q, h1, h2, rfl⟩ := hT
        obtain ⟨f1, v1, e1, r1, a1⟩ := arg_abs hspare (ho t (List.mem_cons_self ..)) (hv 0 t v rfl rfl) h1 (fun n hn => hz n (by simp only [DataW.weightsEach, List.mem_append]; exact .inl hn)) f h hs hn
        obtain ⟨f2, vs2, e2, hl, r2, a2⟩ := ih vs ds q (fun t ht => ho t (List.mem_cons_of_mem _ ht)) (fun j t v h3 h4 => hv (j + 1) t v (by simpa using h3) (by simpa using h4)) h2 (fun n hn => hz n (by simp only [DataW.weightsEach, List.mem_append]; exact .inr hn)) f1 h e1.sim hn
        refine ⟨f2, v1 :: vs2, e1.trans e2, by simp [hl], fun i => ?_, .cons a1 a2⟩
        cases i with
        | zero => simpa using r1.mono (Nat.le_refl _) e2.agree
        | succ i => simpa using r2 i
/-- nothing is known of the package's own variables -/
def start (P : Program) : AH := List.replicate P.globals.size .dead
def at0 : Emb := ⟨fun b => ⟨b, 0, 0, 0, 0⟩, fun _ => none⟩
theorem start_get {P : Program} {b : Nat} {o : AObj} (h : (start P)[b]? = some o) : o = .dead := by
  unfold start at h
  rw [List.getElem?_replicate] at h
  split at h
  · exact (Option.some.inj h).symm
  · cases h
theorem start_sim (P : Program) (hl : laidOutB P = true) (w : World) : Sim P at0 (start P) w :=
  ⟨(fun b o hb ha => by rw [start_get hb] at ha; cases ha), (fun b b' o o' hb _ ha _ _ _ => by rw [start_get hb] at ha; cases ha), (fun g _ => ⟨rfl, rfl⟩), by simp [start], fun r ds e => (by cases e), hl, fun b o hb => (by rw [start_get hb]; trivial)⟩
theorem start_norw (P : Program) : NoRW (start P) := fun b o hb => by rw [start_get hb]; rfl
/-- a law whose walk is done -/
theorem law_calls (hl0 : laidOutB P = true) (hspare : ∀ b, spare b = true) {F : FuncId} {ts : List TypeId} {r : Reach} {b0 : Nat} {args : Array Value} {ds : List (DataW H)} {ps : List MemPlace} (ho : ts.all (okArg P) = true)
    (hlaw : ∀ (h : AH) (vs : List Value), P.globals.size ≤ h.length → NoRW h → TArgs P ts vs → ACalls P F vs.toArray h (fun v _ => v = .bool true))
    (hv : ∀ (j : Nat) t v, ts[j]? = some t → args.toList[j]? = some v → Value.okWide P w r b0 t v) (hT : DataW.TrodAll enc P w 0 spare held ts args.toList ds ps) (hz : (DataW.weightsEach P ts ds).all (· ≤ reachBytes) = true) :
    Calls P F args w fun e w' => e = .returned (.bool true) ∧ Below w.heap.size w w' := by
  obtain ⟨f1, vs, e1, hl, hr, ha⟩ := args_abs hspare ts args.toList ds ps (List.all_eq_true.1 ho) hv hT (fun n hn => by simpa using List.all_eq_true.1 hz n hn) at0 (start P) (start_sim P hl0 w) (start_norw P)
  have hno := start_norw P
  refine ((hlaw (start P) vs (by simp [start]) hno ha).run f1 w args e1.sim ⟨by simpa using hl, fun i => ?_⟩).mono fun e w' ⟨f', v, v', h', h1, h2, h3, h4⟩ => ?_
  · have := hr i
    have e1 : args.toList.getD i junk = args.getD i junk := by simp [Array.getD_eq_getD_getElem?, List.getD]
    have e2 : vs.toArray.getD i junk = vs.getD i junk := by simp [Array.getD_eq_getD_getElem?, List.getD]
    rw [e1] at this; rw [e2]; exact this
  · subst h2
    cases h4
    exact ⟨h1, h3.keep.os, h3.keep.tape, h3.keep.output, h3.keep.size, fun k hk => h3.keep.block k hk fun b o hb ho => by rw [hno b o hb] at ho; cases ho⟩
/-- all arguments are read axs before -/
theorem trodAll_below (hl : laidOutB P = true) {w' : World} (hb : Below w.heap.size w w') : ∀ (ts : List TypeId) (vs : List Value) (ds : List (DataW H)) (ps : List MemPlace), (∀ t ∈ ts, P.readableRec t = true ∧ t < P.types.size) →
    DataW.TrodAll enc P w 0 (fun _ => true) true ts vs ds ps → DataW.TrodAll enc P w' 0 (fun b => decide (b < w.heap.size)) true ts vs ds ps := by
  intro ts
  induction ts with
  | nil => intro vs ds ps _ h; cases vs <;> cases ds <;> simp_all [DataW.TrodAll]
  | cons t ts ih =>
    intro vs ds ps ho h
    cases vs with
    | nil => cases ds <;> simp [DataW.TrodAll] at h
    | cons v vs =>
      cases ds with
      | nil => simp [DataW.TrodAll] at h
      | cons d ds =>
        obtain ⟨p, q, h1, h2, rfl⟩ := h
        refine ⟨p, q, Below.trod hl (ho t (List.mem_cons_self ..)).1 (ho t (List.mem_cons_self ..)).2 h1 hb ?_, ih vs ds q (fun t ht => ho t (List.mem_cons_of_mem _ ht)) h2, rfl⟩
        obtain ⟨m, hm⟩ := h1
        exact DataW.trod_lt m _ _ _ hm
end Go.Am

set_option linter.unusedVariables false
set_option linter.unusedSimpArgs false
/- What is known of arguments, laid open. -/
namespace Go.Am
open Go
variable {P : Program} {h : AH} {t e : TypeId} {v : Value}
theorem TLeaf.int_inv {k : IntKind} (ha : TLeaf P t v) (hu : P.underlying t = some (.int k)) : ∃ n, v = .int k n ∧ (Lit.int k n).wf = true := by
  cases ha with
  | int n hu2 hw => rw [hu] at hu2; cases hu2; exact ⟨n, rfl, hw⟩
  | bool _ hu2 | string _ hu2 | nil hu2 | slice _ _ _ hu2 => rw [hu] at hu2; cases hu2
theorem TLeaf.bool_inv (ha : TLeaf P t v) (hu : P.underlying t = some .bool) : ∃ b, v = .bool b := by
  cases ha with
  | bool b hu2 => exact ⟨b, rfl⟩
  | int _ hu2 | string _ hu2 | nil hu2 | slice _ _ _ hu2 => rw [hu] at hu2; cases hu2
theorem TLeaf.string_inv (ha : TLeaf P t v) (hu : P.underlying t = some .string) : ∃ s, v = .string s ∧ s.size ≤ maxLen := by
  cases ha with
  | string s hu2 hs => exact ⟨s, rfl, hs⟩
  | int _ hu2 | bool _ hu2 | nil hu2 | slice _ _ _ hu2 => rw [hu] at hu2; cases hu2
theorem TLeaf.slice_inv {l : List TypeId} (ha : TLeaf P t v) (hu : P.underlying t = some (.slice e)) (hl : flat P 8 e = some l) :
    v = .slice none 0 0 ∨ ∃ len c, v = fz c len ∧ (len ≤ maxLen ∧ len * P.bytesOf e ≤ reachBytes) ∧ c.size = len * l.length ∧ ∀ i j, i < len → j < l.length → TLeaf P (l.getD j 0) (c.getD (i * l.length + j) junk) := by
  cases ha with
  | nil hu2 => exact .inl rfl
  | slice l2 len c hu2 hl2 he h0 hm hc hall =>
    rw [hu] at hu2; cases hu2
    rw [hl] at hl2; cases hl2
    exact .inr ⟨len, c, rfl, hm, hc, hall⟩
  | int _ hu2 | bool _ hu2 | string _ hu2 => rw [hu] at hu2; cases hu2
theorem TArgs.none_inv {vs : List Value} (ha : TArgs P [] vs) : vs = [] := by cases ha; rfl
theorem TArgs.cons_inv {ts : List TypeId} {vs : List Value} (ha : TArgs P (t :: ts) vs) : ∃ v r, vs = v :: r ∧ TArg P t v ∧ TArgs P ts r := by
  cases ha with
  | cons h1 h2 => exact ⟨_, _, rfl, h1, h2⟩
end Go.Am

set_option linter.unusedVariables false
set_option linter.unusedSimpArgs false
/- Rows that are written. -/
namespace Go.Am
open Go
section
variable {A : Array Value} {s i x : Int}
end
end Go.Am

set_option linter.unusedVariables false
set_option linter.unusedSimpArgs false
/- Loops of few rounds; the comparison of bytes. -/
namespace Go.Am
open Go
/-- a loop that goes round so often, or less -/
def aRounds (P : Program) (h0 : AH) (c : Code) (Q : Exit → Array Value → AH → Prop) : Nat → Array Value → AH → Prop
  | 0, _, _ => False
  | n + 1, a, h => ay P h0 c (thenA (aRounds P h0 c Q n) Q) a h
theorem AWP.rounds {P : Program} {h0 : AH} {c : Code} {Q : Exit → Array Value → AH → Prop} (n : Nat) {a : Array Value} {h : AH} (ha : aRounds P h0 c Q n a h) : AWP P h0 (.loop c) Q a h := by
  intro f0 w0 f a' w s0 g ro hrb
  refine wpIn_loop_rounds n ?_
  induction n generalizing f a h a' w with
  | zero => exact ha.elim
  | succ n ih =>
    refine Go.wpIn_mono (ay_sound c _ _ _ ha f0 w0 f a' w s0 g ro hrb) fun e a1 w1 hq => ?_
    cases e with
    | normal =>
      obtain ⟨f1, b, h1, hk, g1⟩ := hq
      exact ih hk f1 a1 w1 g1
    | exit id => exact hq
    | goto l => exact hq
    | ret => exact hq
    | panic c => exact hq
    | outgrown => exact hq
section
variable {P : Program} {h0 h : AH} {c : Code} {Q : Exit → Array Value → AH → Prop} {a : Array Value}
end
/-! the comparison -/
def mkCmp (n o n2 o2 : Nat) : Option AObj → Option AObj → Option Value
  | some (.cells A _ _), some (.cells B _ _) =>
    if o + n ≤ A.size ∧ o2 + n2 ≤ B.size ∧ (A.extract o (o + n)).all isByte = true ∧ (B.extract o2 (o2 + n2)).all isByte = true then some (.int .i64 (cmpV (A.extract o (o + n)) (B.extract o2 (o2 + n2)))) else none
  | _, _ => none
theorem acompare_rows {h : AH} {b o n c b2 o2 n2 c2 : Nat} (hn : (n == 0) = false) (hn2 : (n2 == 0) = false) :
    acompare h (.slice (some ⟨b, o, none⟩) n c) (.slice (some ⟨b2, o2, none⟩) n2 c2) = mkCmp n o n2 o2 h[b]? h[b2]? := by
  have h1 : n ≠ 0 := by simpa using hn
  have h2 : n2 ≠ 0 := by simpa using hn2
  simp only [acompare, isSlice, and_self, if_true, asource, h1, h2, if_false, Nat.mul_one]
  generalize h[b]? = x
  generalize h[b2]? = y
  cases x with
  | none => rfl
  | some x =>
    cases x with
    | cells A es rw =>
      by_cases l1 : o + n ≤ A.size
      · cases y with
        | none => simp [mkCmp, l1]
        | some y =>
          cases y with
          | cells B es2 rw2 =>
            by_cases l2 : o2 + n2 ≤ B.size
            · simp only [mkCmp, l1, l2, if_true, true_and]
            · simp [mkCmp, l1, l2]
          | _ => simp [mkCmp, l1]
      · cases y with
        | none => simp [mkCmp, l1]
        | some y => cases y <;> simp [mkCmp, l1]
    | _ => rfl
def srcRow (n o m : Nat) : Option AObj → Option (Nat × Array Value)
  | some (.cells c _ _) => if o + n * m ≤ c.size then some (n, c.extract o (o + n * m)) else none
  | _ => none
theorem asource_row {h : AH} {b o n c m : Nat} (hn : (n == 0) = false) : asource h m (.slice (some ⟨b, o, none⟩) n c) = srcRow n o m h[b]? := by
  have h1 : n ≠ 0 := by simpa using hn
  simp only [asource, h1, if_false]
  generalize h[b]? = x
  cases x with
  | none => rfl
  | some x => cases x <;> rfl
/-- one plain result; nothing new -/
theorem apost_tmp0 {P : Program} {h0 : AH} {fn : Func} {R : Value → AH → Prop} {v : Value} {k : Nat} (hr : fn.results = #[.tmp k]) (hp : plainB v = true) (hR : R v h0) (l : List Value) (hl : l.getD k junk = v) : apost P h0 fn R .ret l.toArray h0 :=
  apost_plain (by rw [aresults_tmp hr, getD_lit, hl]) hp (keeps_refl _) hR
/-- one plain result that a cell holds -/
theorem apost_cell {P : Program} {h0 : AH} {fn : Func} {R : Value → AH → Prop} {v p : Value} {k : Nat} {ty : TypeId} (hr : fn.results = #[.cell k ty]) (hp : plainB v = true) (hR : R v h0) (l : List Value) (t : AH) (hl : l.getD k junk = p) (hv : aload P (h0 ++ t) ty p = some v) : apost P h0 fn R .ret l.toArray (h0 ++ t) :=
  apost_plain (by rw [aresults_cell hr, getD_lit, hl, hv]) hp (keeps_append _ _) hR
end Go.Am

set_option linter.unusedVariables false
set_option linter.unusedSimpArgs false
/- What is not needed any more is forgotten, at a loop's head. -/
namespace Go.Am
open Go
/-- rows of values, one renamed to the other -/
inductive Rens (σ : Nat → Nat) (L : Nat) : List Value → List Value → Prop
  | nil : Rens σ L [] []
  | cons {v1 v : Value} {l1 l : List Value} (h : VRen σ L v1 v) (r : Rens σ L l1 l) : Rens σ L (v1 :: l1) (v :: l)
theorem Rens.length {σ : Nat → Nat} {L : Nat} {l1 l : List Value} (h : Rens σ L l1 l) : l1.length = l.length := by
  induction h with
  | nil => rfl
  | cons _ _ ih => simp [ih]
theorem Rens.get {σ : Nat → Nat} {L : Nat} {l1 l : List Value} (h : Rens σ L l1 l) : ∀ i : Nat, VRen σ L (l1.getD i junk) (l.getD i junk) := by
  induction h with
  | nil => intro i; simp; exact .junk _
  | cons h _ ih =>
    intro i
    cases i with
    | zero => simpa using h
    | succ i => simpa using ih i
theorem Forget.list {h0 t t1 : AH} {l l1 : List Value} (js : List Nat) (hl : js.length = t1.length) (hnd : js.Nodup)
    (hobj : ∀ i o1, t1[i]? = some o1 → o1.alive = true → ∃ o, t[js.getD i i]? = some o ∧ ORen (pick h0.length js) (h0.length + t1.length) o1 o)
    (hv : Rens (pick h0.length js) (h0.length + t1.length) l1 l) : Forget h0 l.toArray (h0 ++ t) l1.toArray (h0 ++ t1) := by
  refine .inr ⟨pick h0.length js, GC.pick js hl hnd hobj, by simpa using hv.length, fun i => ?_⟩
  have e1 : l1.toArray.getD i junk = l1.getD i junk := by simp [Array.getD_eq_getD_getElem?, List.getD]
  have e2 : l.toArray.getD i junk = l.getD i junk := by simp [Array.getD_eq_getD_getElem?, List.getD]
  rw [e1, e2]
  simpa using hv.get i
end Go.Am

set_option linter.unusedVariables false
set_option linter.unusedSimpArgs false
/- Freezing: a block that nobody writes any more becomes a value. -/
namespace Go.Am
open Go
/-- a value that names no block -/
inductive Tree : Value → Prop
  | junk : Tree junk
  | plain (v : Value) (h : plain1 v = true) : Tree v
  | agg (xs : Array Value) (h : ∀ i : Nat, Tree (xs.getD i Am.junk)) : Tree (.agg xs)
  | tuple (xs : Array Value) (h : ∀ i : Nat, Tree (xs.getD i Am.junk)) : Tree (.tuple xs)
  | iface (t : TypeId) (v : Value) (h : Tree v) : Tree (.iface t v)
  | func (fn : Fn) (xs cs : Array Value) (hfn : Fn.plain fn = true) (h : ∀ i : Nat, Tree (xs.getD i Am.junk)) (k : ∀ i : Nat, Tree (cs.getD i Am.junk)) : Tree (.func fn xs cs)
  | fz (cs : Array Value) (n : Nat) (h : ∀ i : Nat, Tree (cs.getD i Am.junk)) : Tree (.func (.yield 0) cs #[.int .i64 n])
  | fp (cs : Array Value) (n : Nat) (h : ∀ i : Nat, Tree (cs.getD i Am.junk)) : Tree (.func (.yield 1) cs #[.int .i64 n])
theorem Tree.ren {σ : Nat → Nat} {L : Nat} {v : Value} (h : Tree v) : VRen σ L v v := by
  induction h with
  | junk => exact .junk _
  | plain v h => exact .plain v h
  | agg xs h ih => exact .agg xs xs rfl ih
  | tuple xs h ih => exact .tuple xs xs rfl ih
  | iface t v h ih => exact .iface t v v ih
  | func fn xs cs hfn h k ih1 ih2 => exact .func fn xs xs cs cs hfn rfl ih1 rfl ih2
  | fz cs n h ih => exact .fz cs cs n rfl ih
  | fp cs n h ih => exact .fp cs cs n rfl ih
/-- what a value becomes when blocks become values -/
inductive Rf (h h1 : AH) : Value → Value → Prop
  | same (v : Value) : Rf h h1 v v
  | junk (v : Value) : Rf h h1 v junk
  | slice (b o n cap es : Nat) (c c1 : Array Value) (rw : Bool) (hb : h[b]? = some (.cells c es rw)) (hd : h1[b]? = some .dead) (hle : o + c1.size ≤ c.size) (hn : n ≤ cap) (h0 : n = 0 → c1.size = 0)
      (hxy : ∀ i : Nat, i < c1.size → Rf h h1 (c.getD (o + i) Am.junk) (c1.getD i Am.junk)) : Rf h h1 (.slice (some ⟨b, o, none⟩) n cap) (.func (.yield 0) c1 #[.int .i64 n])
  | empty (b o cap : Nat) : Rf h h1 (.slice (some ⟨b, o, none⟩) 0 cap) (.func (.yield 0) #[] #[.int .i64 (0 : Nat)])
  | ptr (b o es : Nat) (c c1 : Array Value) (rw : Bool) (hb : h[b]? = some (.cells c es rw)) (hd : h1[b]? = some .dead) (hle : c1.size = c.size)
      (hxy : ∀ i : Nat, i < c1.size → Rf h h1 (c.getD i Am.junk) (c1.getD i Am.junk)) : Rf h h1 (.pointer (some ⟨b, o, none⟩)) (.func (.yield 1) c1 #[.int .i64 o])
  | agg (xs ys : Array Value) (hx : xs.size = ys.size) (hxy : ∀ i : Nat, Rf h h1 (xs.getD i Am.junk) (ys.getD i Am.junk)) : Rf h h1 (.agg xs) (.agg ys)
  | tuple (xs ys : Array Value) (hx : xs.size = ys.size) (hxy : ∀ i : Nat, Rf h h1 (xs.getD i Am.junk) (ys.getD i Am.junk)) : Rf h h1 (.tuple xs) (.tuple ys)
  | iface (t : TypeId) (v v1 : Value) (hv : Rf h h1 v v1) : Rf h h1 (.iface t v) (.iface t v1)
  | func (fn : Fn) (xs ys cs ds : Array Value) (hfn : Fn.plain fn = true) (hx : xs.size = ys.size) (hxy : ∀ i : Nat, Rf h h1 (xs.getD i Am.junk) (ys.getD i Am.junk))
      (hc : cs.size = ds.size) (hcd : ∀ i : Nat, Rf h h1 (cs.getD i Am.junk) (ds.getD i Am.junk)) : Rf h h1 (.func fn xs cs) (.func fn ys ds)
/-- what a heap becomes -/
structure HFz (h h1 : AH) : Prop where
  len : h1.length = h.length
  obj : ∀ (b : Nat) (o1 : AObj), h1[b]? = some o1 → o1.alive = true → h[b]? = some o1 ∨ ∃ (c c1 : Array Value) (es : Nat) (rw : Bool), h[b]? = some (.cells c es rw) ∧ o1 = .cells c1 es rw ∧ c1.size = c.size ∧ ∀ i : Nat, i < c.size → Rf h h1 (c.getD i Am.junk) (c1.getD i Am.junk)
theorem freeze_rel {P : Program} {f f1 : Emb} {h h1 : AH} {w : World} (hs : Sim P f h w) (hlen : h1.length = h.length) (hag : Emb.Agree h.length f f1)
    (hrom : ∀ (b : Nat) (c : Array Value) (es : Nat) (rw : Bool), h[b]? = some (.cells c es rw) → h1[b]? = some .dead → ∃ ds el fr, w.heap[(f b).blk]? = some (.cells ds el fr) ∧ f1.rom (f b).blk = some ds) :
    ∀ {v v1 : Value}, Rf h h1 v v1 → ∀ {v' : Value}, VRel f h.length v v' → VRel f1 h1.length v1 v' := by
  intro v v1 r
  have row : ∀ {b : Nat} {c : Array Value} {es : Nat} {rw : Bool}, h[b]? = some (.cells c es rw) → h1[b]? = some .dead → ∃ ds, f1.rom (f b).blk = some ds ∧ (f b).off + c.size ≤ ds.size ∧
      ∀ i : Nat, i < c.size → VRel f h.length (c.getD i Am.junk) (ds.getD ((f b).off + i) Am.junk) ∧ (ds.getD ((f b).off + i) Am.junk).oneCell' = true := by
    intro b c es rw hb hd
    obtain ⟨ds, el, fr, k1, k2⟩ := hrom b c es rw hb hd
    obtain ⟨ds', el', fr', g1, g2, g3⟩ := hs.held hb
    rw [k1] at g1
    cases g1
    exact ⟨ds, k2, g2, g3⟩
  induction r with
  | same v => intro v' hv; exact hv.mono (by omega) hag
  | junk v => intro v' hv; exact .junk _
  | slice b o n cap es c c1 rw hb hd hle hn h0 hxy ih =>
    intro v' hv
    obtain ⟨ds, k1, k2, k3⟩ := row hb hd
    rcases hv.slice_inv with ⟨c', rfl, hbL, hc⟩ | ⟨rfl, rfl, a', rfl, _⟩
    · refine .fz c1 n _ _ _ ds k1 (by omega) (Nat.le_trans hn hc.le) (fun i => ?_) (fun i hi => ?_)
      · by_cases hi : i < c1.size
        · rw [if_pos hi, Nat.add_assoc]
          exact ih i hi (k3 (o + i) (by omega)).1
        · rw [getD_ge i hi]; exact .junk _
      · rw [Nat.add_assoc]; exact (k3 (o + i) (by omega)).2
    · have : c1 = #[] := Array.eq_empty_of_size_eq_zero (h0 rfl)
      subst this
      exact .fz0 _ _
  | empty b o cap =>
    intro v' hv
    rcases hv.slice_inv with ⟨c', rfl, hbL, hc⟩ | ⟨_, _, a', rfl, _⟩
    · exact .fz0 _ _
    · exact .fz0 _ _
  | ptr b o es c c1 rw hb hd hle hxy ih =>
    intro v' hv
    obtain ⟨ds, k1, k2, k3⟩ := row hb hd
    obtain ⟨rfl, hbL⟩ := hv.ptr_inv
    refine .fp c1 o _ (f b).off _ ds k1 (by omega) rfl (fun i => ?_) (fun i hi => (k3 i (by omega)).2)
    by_cases hi : i < c1.size
    · rw [if_pos hi]
      exact ih i hi (k3 i (by omega)).1
    · rw [getD_ge i hi]; exact .junk _
  | agg xs ys hx hxy ih =>
    intro v' hv
    obtain ⟨zs, rfl, h2, h3⟩ := hv.agg_inv
    exact .agg ys zs (by omega) (fun i => ih i (h3 i).1) fun i => (h3 i).2
  | tuple xs ys hx hxy ih =>
    intro v' hv
    obtain ⟨zs, rfl, h2, h3⟩ := hv.tuple_inv
    exact .tuple ys zs (by omega) (fun i => ih i (h3 i))
  | iface t v v1 hv0 ih =>
    intro v' hv
    cases hv with
    | iface _ _ u hu => exact .iface t v1 u (ih hu)
  | func fn xs ys cs ds hfn hx hxy hc hcd ih1 ih2 =>
    intro v' hv
    cases hv with
    | func _ _ zs _ es hfn' hx' hxy' hc' hcd' => exact .func fn ys zs ds es hfn' (by omega) (fun i => ih1 i (hxy' i)) (by omega) (fun i => ih2 i (hcd' i))
    | fz => cases hfn
    | fz0 => cases hfn
    | bnil => cases hfn
    | fp => cases hfn
open Classical in
/-- the blocks that become values are known for ever -/
noncomputable def Emb.froze (f : Emb) (h h1 : AH) (w : World) : Emb :=
  ⟨f.img, fun r => if ∃ (b : Nat) (c : Array Value) (es : Nat) (rw : Bool), h[b]? = some (.cells c es rw) ∧ h1[b]? = some .dead ∧ (f b).blk = r then
    (match w.heap[r]? with | some (.cells ds _ _) => some ds | _ => f.rom r) else f.rom r⟩
open Classical in
theorem froze_agree {P : Program} {f : Emb} {h h1 : AH} {w : World} (hs : Sim P f h w) : Emb.Agree h.length f (f.froze h h1 w) := by
  refine ⟨fun _ _ => rfl, fun r ds e => ?_⟩
  show (if _ then _ else _) = _
  split
  · obtain ⟨⟨el, fr, k1⟩, _⟩ := hs.rom r ds e
    rw [k1]
  · exact e
open Classical in
theorem froze_sim {P : Program} {f : Emb} {h h1 : AH} {w : World} (hs : Sim P f h w) (hz : HFz h h1) : Sim P (f.froze h h1 w) h1 w ∧
    ∀ (b : Nat) (c : Array Value) (es : Nat) (rw : Bool), h[b]? = some (.cells c es rw) → h1[b]? = some .dead → ∃ ds el fr, w.heap[(f b).blk]? = some (.cells ds el fr) ∧ (f.froze h h1 w).rom (f b).blk = some ds := by
  have hrom : ∀ (b : Nat) (c : Array Value) (es : Nat) (rw : Bool), h[b]? = some (.cells c es rw) → h1[b]? = some .dead → ∃ ds el fr, w.heap[(f b).blk]? = some (.cells ds el fr) ∧ (f.froze h h1 w).rom (f b).blk = some ds := by
    intro b c es rw hb hd
    obtain ⟨ds, el, fr, g1, _⟩ := hs.held hb
    refine ⟨ds, el, fr, g1, ?_⟩
    show (if _ then _ else _) = _
    rw [if_pos ⟨b, c, es, rw, hb, hd, rfl⟩, g1]
  have hag := froze_agree (h1 := h1) hs
  have old : ∀ (b : Nat) (o1 : AObj), h1[b]? = some o1 → o1.alive = true → ∃ o, h[b]? = some o ∧ o.alive = true ∧ o.rw = o1.rw := by
    intro b o1 hb ha
    rcases hz.obj b o1 hb ha with h2 | ⟨c, c1, es, rw, h2, rfl, _⟩
    · exact ⟨o1, h2, ha, rfl⟩
    · exact ⟨_, h2, rfl, rfl⟩
  refine ⟨⟨fun b o1 hb ha => ?_, fun b b' o o' hb hb' ha ha' hrw hne => ?_, hs.glob, by rw [hz.len]; exact hs.size, fun r ds e => ?_, hs.laid, fun b o1 hb => ?_⟩, hrom⟩
  · rcases hz.obj b o1 hb ha with h2 | ⟨c, c1, es, rw, h2, rfl, h3, h4⟩
    · obtain ⟨o', k1, k2⟩ := hs.obj b o1 h2 ha
      exact ⟨o', k1, k2.mono (by rw [hz.len]; exact Nat.le_refl _) hag⟩
    · obtain ⟨o', k1, c', el, fr, rfl, k2, k3, k4, k5, k6, k7⟩ := hs.obj b _ h2 rfl
      refine ⟨_, k1, c', el, fr, rfl, by rw [h3]; exact k2, k3, k4, k5, k6, fun i hi => ⟨?_, (k7 i (by omega)).2⟩⟩
      exact freeze_rel hs hz.len hag hrom (h4 i (by omega)) (k7 i (by omega)).1
  · obtain ⟨p, q1, q2, q3⟩ := old b o hb ha
    obtain ⟨p', q1', q2', q3'⟩ := old b' o' hb' ha'
    exact hs.sep b b' p p' q1 q1' q2 q2' (by rw [q3]; exact hrw) hne
  · change (if _ then _ else _) = some ds at e
    split at e
    · rename_i hx
      obtain ⟨b, c, es, rw, hb, hd, rfl⟩ := hx
      obtain ⟨ds', el, fr, g1, _⟩ := hs.held hb
      rw [g1] at e
      cases e
      refine ⟨⟨el, fr, g1⟩, fun b' o' hb' hrw' => ?_⟩
      obtain ⟨p', q1', q2', q3'⟩ := old b' o' hb' (rw_alive hrw')
      have hne : b' ≠ b := fun e => by subst e; rw [hd] at hb'; cases hb'; cases hrw'
      exact hs.sep b' b p' _ q1' hb q2' rfl (by rw [q3']; exact hrw') hne
    · obtain ⟨g1, g2⟩ := hs.rom r ds e
      refine ⟨g1, fun b' o' hb' hrw' => ?_⟩
      obtain ⟨p', q1', q2', q3'⟩ := old b' o' hb' (rw_alive hrw')
      exact g2 b' p' q1' (by rw [q3']; exact hrw')
  · by_cases ha : o1.alive = true
    · rcases hz.obj b o1 hb ha with h2 | ⟨c, c1, es, rw, h2, rfl, h3, h4⟩
      · exact hs.ok b o1 h2
      · trivial
    · cases o1 <;> first | trivial | exact absurd rfl ha
theorem Eases.freeze {P : Program} {h0 : AH} {a a1 : Array Value} {h h1 : AH} (hz : HFz h h1) (hsz : a1.size = a.size) (hv : ∀ i : Nat, Rf h h1 (a.getD i junk) (a1.getD i junk)) : Eases P h0 a h a1 h1 := by
  intro f0 w0 f a' w s0 g
  obtain ⟨k1, k2⟩ := froze_sim (h1 := h1) g.sim hz
  have hag := froze_agree (h1 := h1) g.sim
  refine ⟨f.froze h h1 w, k1, ⟨hsz.trans g.tm.1, fun i => freeze_rel g.sim hz.len hag k2 (hv i) (g.tm.2 i)⟩, g.df.ren fun b o hb hrw => ?_, g.keep, fun b o hb hrw => ?_, g.agree.trans hag g.len, by rw [hz.len]; exact g.len⟩
  · rcases hz.obj b o hb (rw_alive hrw) with h2 | ⟨c, c1, es, rw, h2, rfl, _⟩
    · exact ⟨b, o, h2, hrw, rfl⟩
    · exact ⟨b, _, h2, hrw, rfl⟩
  · have : ∃ o2, h[b]? = some o2 ∧ o2.rw = true := by
      rcases hz.obj b o hb (rw_alive hrw) with h2 | ⟨c, c1, es, rw, h2, rfl, _⟩
      · exact ⟨o, h2, hrw⟩
      · exact ⟨_, h2, hrw⟩
    obtain ⟨o2, h2, h3⟩ := this
    exact g.own b o2 h2 h3
/-- all that is new becomes a value -/
def dieNew (h0 h : AH) : AH := h0 ++ List.replicate (h.length - h0.length) .dead
theorem dieNew_get {h0 h : AH} {b : Nat} {o : AObj} (hb : (dieNew h0 h)[b]? = some o) (ha : o.alive = true) : b < h0.length ∧ h0[b]? = some o := by
  unfold dieNew at hb
  by_cases hl : b < h0.length
  · rw [List.getElem?_append_left hl] at hb; exact ⟨hl, hb⟩
  · rw [List.getElem?_append_right (by omega), List.getElem?_replicate] at hb
    split at hb
    · cases hb; cases ha
    · cases hb
end Go.Am

set_option linter.unusedVariables false
set_option linter.unusedSimpArgs false
/- Frozen values: equations; slices axs lists. -/
namespace Go.Am
open Go
section
variable {P : Program} {h : AH} {t u : TypeId} {k j n : Nat} {i : Int} {ik : IntKind} {c : Array Value} {lo hi : Option Value}
def mkLoadF (c : Array Value) (o : Nat) : Option (Bool × Nat) → Option Value
  | some (true, n) => if o + n ≤ c.size then some (.agg (c.extract o (o + n))) else none
  | some (false, _) => c[o]?
  | none => none
def mkFieldAddrF (c : Array Value) (o : Nat) : Option (Nat × Bool × Nat) → Option Value
  | some (off, _, n + 1) => some (fp c (o + off))
  | _ => none
def mkIndexZ (c : Array Value) (len : Nat) (i : Int) : Option (Bool × Nat × Nat) → Option Value
  | some (_, m, _) => if 0 ≤ i ∧ i < len then some (fp c (i.toNat * m)) else none
  | none => none
theorem aload_fp {f : Bool × Nat} (ht : tyc P t = some f) : aload P h t (fp c n) = mkLoadF c n (some f) := by
  obtain ⟨g, m⟩ := f
  obtain ⟨d, i, hu, hi, h1, h2⟩ := tyc_spec ht
  show (match fzN #[.int .i64 (n : Nat)] with | some k => aloadRow P t c k | none => none) = _
  rw [fzN_lit]
  unfold aloadRow mkLoadF
  simp only [hu, hi, h1, h2]
  cases g <;> rfl
theorem afieldAddr_fp {f : Nat × Bool × Nat} (hf : fld P t k = some f) : afieldAddr P t (fp c n) k = mkFieldAddrF c n (some f) := by
  obtain ⟨off, g, m⟩ := f
  obtain ⟨fields, fd, hu, hfd, ho, ht⟩ := fld_spec hf
  obtain ⟨d, i, hud, hi, h1, h2⟩ := tyc_spec ht
  simp only [afieldAddr, fp, hu, hfd, hi, fzN_lit]
  subst ho
  cases m with
  | zero => rw [if_pos h2]; rfl
  | succ m => rw [if_neg (by omega)]; rfl
theorem aindexAddr_fz {f : Bool × Nat × Nat} (ha : slc P t = some f) : aindexAddr P t (fz c n) (.int ik i) = mkIndexZ c n i (some f) := by
  obtain ⟨g, m, by_⟩ := f
  obtain ⟨elem, ie, hu, ht, hie, hsz, _⟩ := slc_spec ha
  simp only [aindexAddr, fz, hu, hie, hsz, mkIndexZ, fzN_lit]
theorem alen_fz {f : Bool × Nat × Nat} (ha : slc P t = some f) : alen P h t (fz c n) = some (.int .i64 n) := by
  obtain ⟨g, m, by_⟩ := f
  obtain ⟨elem, ie, hu, ht, hie, hsz, _⟩ := slc_spec ha
  simp only [alen, fz, hu, fzN_lit]
end
/-! ### slices axs lists -/
/-- a slice: is it nil? what it holds -/
structure Sl (α : Type) where
  nil : Bool
  l : List α
  ok : nil = true → l = []
theorem Sl.ext {α : Type} {a b : Sl α} (h1 : a.nil = b.nil) (h2 : a.l = b.l) : a = b := by cases a; cases b; simp_all
def Sl.app {α : Type} (l : List α) : Sl α := ⟨l.isEmpty, l, by simp⟩
def Sl.full {α : Type} (l : List α) : Sl α := ⟨false, l, by simp⟩
def Sl.none {α : Type} : Sl α := ⟨true, [], by simp⟩
def flatV {α : Type} (enc : α → List Value) (l : List α) : Array Value := (l.flatMap enc).toArray
def slV {α : Type} (enc : α → List Value) (s : Sl α) : Value := bif s.nil then .slice none 0 0 else fz (flatV enc s.l) s.l.length
theorem flat_length {α : Type} {enc : α → List Value} {n : Nat} (hn : ∀ x, (enc x).length = n) (l : List α) : (l.flatMap enc).length = l.length * n := by
  induction l with
  | nil => simp
  | cons x l ih => simp [hn, ih, Nat.add_mul]; omega
theorem flat_size {α : Type} {enc : α → List Value} {n : Nat} (hn : ∀ x, (enc x).length = n) (l : List α) : (flatV enc l).size = l.length * n := by
  simp [flatV, flat_length hn]
theorem flat_drop {α : Type} {enc : α → List Value} {n : Nat} (hn : ∀ x, (enc x).length = n) : ∀ (l : List α) (k : Nat), (l.flatMap enc).drop (k * n) = (l.drop k).flatMap enc
  | l, 0 => by simp
  | [], k + 1 => by simp
  | x :: l, k + 1 => by
    rw [List.flatMap_cons, Nat.add_mul, Nat.one_mul, Nat.add_comm, ← List.drop_drop]
    have : (enc x ++ l.flatMap enc).drop n = l.flatMap enc := by rw [← hn x, List.drop_left]
    rw [this, flat_drop hn l k]
    simp
theorem flat_take {α : Type} {enc : α → List Value} {n : Nat} (hn : ∀ x, (enc x).length = n) : ∀ (l : List α) (k : Nat), (l.flatMap enc).take (k * n) = (l.take k).flatMap enc
  | l, 0 => by simp
  | [], k + 1 => by simp
  | x :: l, k + 1 => by
    rw [List.flatMap_cons, Nat.add_mul, Nat.one_mul, Nat.add_comm]
    rw [List.take_append, List.take_of_length_le (by rw [hn]; omega), hn, show n + k * n - n = k * n by omega, flat_take hn l k]
    simp
theorem flat_extract {α : Type} {enc : α → List Value} {n : Nat} (hn : ∀ x, (enc x).length = n) (l : List α) (a b : Nat) : (flatV enc l).extract (a * n) (b * n) = flatV enc ((l.take b).drop a) := by
  apply Array.ext'
  simp only [flatV, Array.toList_extract, List.extract_eq_take_drop]
  rw [← flat_drop hn, ← flat_take hn, List.drop_take]
theorem flat_getElem? {α : Type} {enc : α → List Value} {n : Nat} (hn : ∀ x, (enc x).length = n) {l : List α} {k : Nat} (hk : k < l.length) {off : Nat} (ho : off < n) : (flatV enc l)[k * n + off]? = (enc l[k])[off]? := by
  have h1 : (l.flatMap enc)[k * n + off]? = ((l.flatMap enc).drop (k * n))[off]? := by rw [List.getElem?_drop]
  simp only [flatV, List.getElem?_toArray, h1, flat_drop hn]
  rw [List.drop_eq_getElem_cons hk, List.flatMap_cons, List.getElem?_append_left (by rw [hn]; exact ho)]
theorem flat_piece {α : Type} {enc : α → List Value} {n : Nat} (hn : ∀ x, (enc x).length = n) {l : List α} {k : Nat} (hk : k < l.length) {off m : Nat} (ho : off + m ≤ n) : (flatV enc l).extract (k * n + off) (k * n + off + m) = ((enc l[k]).toArray).extract off (off + m) := by
  apply Array.ext
  · have h1 := flat_size hn l
    have h2 : (k + 1) * n ≤ l.length * n := Nat.mul_le_mul_right _ hk
    rw [Nat.add_mul, Nat.one_mul] at h2
    simp [h1, hn]; omega
  · intro i h1 h2
    have hi : i < m := by simp [hn] at h2; omega
    have e := flat_getElem? hn hk (off := off + i) (by omega)
    have e2 : (flatV enc l)[k * n + off + i]? = (enc l[k])[off + i]? := by rw [Nat.add_assoc]; exact e
    have g1 : ((flatV enc l).extract (k * n + off) (k * n + off + m))[i]? = (flatV enc l)[k * n + off + i]? := by rw [Array.getElem?_extract]; simp only [Array.size_extract] at h1; rw [if_pos (by omega)]
    have g2 : (((enc l[k]).toArray).extract off (off + m))[i]? = (enc l[k])[off + i]? := by rw [Array.getElem?_extract]; simp only [Array.size_extract] at h2; rw [if_pos (by omega)]; simp
    have := g1.trans (e2.trans g2.symm)
    rw [Array.getElem?_eq_getElem h1, Array.getElem?_eq_getElem h2] at this
    exact Option.some.inj this
section
variable {P : Program} {h : AH} {t u : TypeId} {k j n : Nat} {i : Int} {ik : IntKind} {lo hi : Option Value} {α : Type} {enc : α → List Value} {s : Sl α} {l : List α}
/-- a part of an element -/
theorem loadF_part {off m : Nat} {g : Bool} (hn : ∀ x, (enc x).length = n) (hk : k < l.length) (ho : off + m ≤ n) (hm : 0 < m) : mkLoadF (flatV enc l) (k * n + off) (some (g, m)) = mkLoadF (enc l[k]).toArray off (some (g, m)) := by
  have h2 : (k + 1) * n ≤ l.length * n := Nat.mul_le_mul_right _ hk
  rw [Nat.add_mul, Nat.one_mul] at h2
  cases g with
  | true =>
    unfold mkLoadF
    simp only
    rw [if_pos (by rw [flat_size hn]; omega), if_pos (by simp [hn]; omega), flat_piece hn hk ho]
  | false =>
    unfold mkLoadF
    simp only
    rw [flat_getElem? hn hk (by omega), List.getElem?_toArray]
theorem alen_slV {f : Bool × Nat × Nat} (ha : slc P t = some f) : alen P h t (slV enc s) = some (.int .i64 (s.l.length : Nat)) := by
  unfold slV
  cases hn : s.nil with
  | false => exact alen_fz ha
  | true => rw [s.ok hn]; exact alen_eq' ha
theorem aindex_slV {f : Bool × Nat × Nat} (ha : slc P t = some f) : aindexAddr P t (slV enc s) (.int ik i) = mkIndexZ (flatV enc s.l) s.l.length i (some f) := by
  unfold slV
  cases hn : s.nil with
  | false => exact aindexAddr_fz ha
  | true =>
    obtain ⟨g, m, by_⟩ := f
    obtain ⟨elem, ie, hu, _⟩ := slc_spec ha
    rw [s.ok hn]
    simp only [mkIndexZ, List.length_nil]
    rw [if_neg (by omega)]
    simp only [aindexAddr, cond_true, hu]
/-- a piece of a slice -/
def Sl.piece (s : Sl α) (a b : Nat) : Sl α := ⟨s.nil, (s.l.take b).drop a, fun e => by rw [s.ok e]; simp⟩
end
theorem Tree.slV {α : Type} {enc : α → List Value} (ht : ∀ x, ∀ v ∈ enc x, Tree v) (s : Sl α) : Tree (Am.slV enc s) := by
  unfold Am.slV
  cases s.nil with
  | true => exact .plain _ rfl
  | false =>
    refine .fz _ _ fun i => ?_
    by_cases hi : i < (flatV enc s.l).size
    · have : (flatV enc s.l).getD i Am.junk ∈ s.l.flatMap enc := by
        simp only [flatV, List.size_toArray] at hi
        simp only [flatV, Array.getD, List.size_toArray, hi, dite_true, Array.getInternal_eq_getElem, List.getElem_toArray]
        exact List.getElem_mem hi
      obtain ⟨x, _, hx⟩ := List.mem_flatMap.1 this
      exact ht x _ hx
    · rw [getD_ge i hi]; exact .junk
end Go.Am

set_option linter.unusedVariables false
set_option linter.unusedSimpArgs false
/- Slices that grow; what is forgotten; calls at frozen arguments. -/
namespace Go.Am
open Go
/-- a slice that grows from nil on, and lies in a block of its own -/
def outV {α : Type} (b : Nat) (l : List α) : Value := match l with
  | [] => .slice none 0 0
  | _ :: _ => .slice (some ⟨b, 0, none⟩) l.length l.length
def outO {α : Type} (enc : α → List Value) (m : Nat) (l : List α) : AObj := match l with
  | [] => .dead
  | _ :: _ => .cells (flatV enc l) m true
section
variable {P : Program} {h H : AH} {t u : TypeId} {b m n by_ : Nat} {g : Bool} {i : Int} {ik : IntKind} {α : Type} {enc : α → List Value} {l : List α} {new : Array Value}
theorem outV_ne (hl : l ≠ []) : outV b l = .slice (some ⟨b, 0, none⟩) l.length l.length := by cases l <;> simp_all [outV]
theorem outO_ne (hl : l ≠ []) : outO enc m l = .cells (flatV enc l) m true := by cases l <;> simp_all [outO]
theorem flatV_append (l l2 : List α) : flatV enc (l ++ l2) = flatV enc l ++ flatV enc l2 := by simp [flatV]
theorem set_same {l : List AObj} {k : Nat} {x : AObj} (h : l[k]? = some x) : l.set k x = l := by
  apply List.ext_getElem?
  intro i
  by_cases hi : k = i
  · subst hi; rw [List.getElem?_set_self (List.getElem?_eq_some_iff.1 h).1, h]
  · rw [List.getElem?_set_ne hi]
theorem mkApp_out (hb : H[b]? = some (outO enc m l)) (hm : ∀ x, (enc x).length = m) (hn : 0 < n) (hbd : (2 * (l.length + n) + 192) * by_ ≤ 2 ^ 48 ∧ l.length + n < 2 ^ 62) :
    mkApp H (outV b l) (some (g, m, by_)) (some (n, new)) = some (.slice (some ⟨H.length, 0, none⟩) (l.length + n) (l.length + n), H.set b .dead ++ [.cells (flatV enc l ++ new) m true]) := by
  cases l with
  | nil =>
    simp only [outV, outO, mkApp, List.length_nil, Nat.zero_add] at hb hbd ⊢
    rw [if_neg (by omega), if_pos hbd, set_same hb]
    simp [flatV]
  | cons x l =>
    have hsz := flat_size hm (x :: l)
    simp only [outV, outO, mkApp] at hb ⊢
    rw [if_neg (by omega), hb]
    simp only
    rw [if_pos (by simp [hsz]), if_neg (by omega), if_pos hbd, Nat.zero_add, ← hsz, Array.extract_size]
theorem alen_outV {f : Bool × Nat × Nat} (ha : slc P t = some f) : alen P h t (outV b l) = some (.int .i64 (l.length : Nat)) := by
  cases l with
  | nil => exact alen_eq' ha
  | cons x l => exact alen_eq' ha
end
/-- a slice that has grown becomes a value -/
theorem Rf.outV {α : Type} {h h1 : AH} {enc : α → List Value} {m b : Nat} {l : List α} (hb : h[b]? = some (outO enc m l)) (hd : h1[b]? = some .dead) (hm : ∀ x, (enc x).length = m) : Rf h h1 (Am.outV b l) (slV enc (Sl.app l)) := by
  cases l with
  | nil => exact .same _
  | cons x l =>
    exact .slice b 0 _ _ m (flatV enc (x :: l)) (flatV enc (x :: l)) true hb hd (by omega) (Nat.le_refl _) (fun h => by simp at h) fun i _ => by rw [Nat.zero_add]; exact .same _
/-- a slice that fills its block becomes a value -/
theorem Rf.full {α : Type} {h h1 : AH} {enc : α → List Value} {es b : Nat} {l : List α} {rw : Bool} {cap : Nat} (hb : h[b]? = some (.cells (flatV enc l) es rw)) (hd : h1[b]? = some .dead) (hc : l.length ≤ cap) : Rf h h1 (.slice (some ⟨b, 0, none⟩) l.length cap) (slV enc (Sl.full l)) := by
  show Rf h h1 _ (fz (flatV enc l) l.length)
  exact .slice b 0 _ _ es (flatV enc l) (flatV enc l) rw hb hd (by omega) hc (fun h => by
    have : l = [] := List.length_eq_zero_iff.1 h
    subst this; simp [flatV]) fun i _ => by rw [Nat.zero_add]; exact .same _
/-! ### calls at frozen arguments -/
theorem ACalls.freeze {P : Program} {F : FuncId} {args args1 : Array Value} {h h1 : AH} {R : Value → AH → Prop} (hz : HFz h h1) (hsz : args1.size = args.size) (hv : ∀ i : Nat, Rf h h1 (args.getD i junk) (args1.getD i junk)) (hc : ACalls P F args1 h1 R) : ACalls P F args h R := by
  refine ⟨hc.inh, fun f w args' hs ha => ?_⟩
  obtain ⟨k1, k2⟩ := froze_sim (h1 := h1) hs hz
  have hag := froze_agree (h1 := h1) hs
  have old : ∀ (b : Nat) (o1 : AObj), h1[b]? = some o1 → o1.rw = true → ∃ o, h[b]? = some o ∧ o.rw = true := by
    intro b o1 hb hrw
    rcases hz.obj b o1 hb (rw_alive hrw) with h2 | ⟨c, c1, es, rw, h2, rfl, _⟩
    · exact ⟨o1, h2, hrw⟩
    · exact ⟨_, h2, hrw⟩
  have ha1 : ARel (f.froze h h1 w) h1.length args1 args' := ⟨hsz.trans ha.1, fun i => freeze_rel hs hz.len hag k2 (hv i) (ha.2 i)⟩
  refine (hc.run _ w args' k1 ha1).mono fun e w' hx => ?_
  obtain ⟨f', v, v', h', h2, h3, st, h5⟩ := hx
  refine ⟨f', v, v', h', h2, h3, ⟨st.sim, hag.trans st.agree (by rw [hz.len]; exact Nat.le_refl _), by rw [← hz.len]; exact st.len, ⟨st.keep.os, st.keep.tape, st.keep.output, st.keep.size, fun r hr hno => ?_, st.keep.drawn⟩, fun b o hb ho => ?_⟩, h5⟩
  · refine st.keep.block r hr fun b o hb ho => ?_
    obtain ⟨o2, g1, g2⟩ := old b o hb ho
    exact hno b o2 g1 g2
  · rcases st.own b o hb ho with h6 | ⟨b0, o0, g1, g2, g3⟩
    · exact .inl h6
    · obtain ⟨o2, q1, q2⟩ := old b0 o0 g1 g2
      exact .inr ⟨b0, o2, q1, q2, g3⟩
/-- the last block of a heap dies -/
theorem HFz.last {h : AH} {o : AObj} : HFz (h ++ [o]) (h ++ [.dead]) :=
  ⟨by simp, fun b o1 hb ha => by
    by_cases hl : b < h.length
    · rw [List.getElem?_append_left hl] at hb; exact .inl (by rw [List.getElem?_append_left hl]; exact hb)
    · rw [List.getElem?_append_right (by omega)] at hb
      have h1 := (List.getElem?_eq_some_iff.1 hb).1
      simp at h1
      have : b - h.length = 0 := by omega
      rw [this] at hb
      simp at hb
      subst hb
      cases ha⟩
theorem HFz.refl (h : AH) : HFz h h := ⟨rfl, fun b o1 hb ha => .inl hb⟩
/-- a block dies -/
theorem HFz.set {h : AH} {b : Nat} : HFz h (h.set b .dead) :=
  ⟨by simp, fun b' o1 hb ha => by
    by_cases he : b = b'
    · subst he
      by_cases hl : b < h.length
      · rw [List.getElem?_set_self hl] at hb; cases hb; cases ha
      · rw [List.getElem?_eq_none (by simpa using hl)] at hb; cases hb
    · rw [List.getElem?_set_ne he] at hb; exact .inl hb⟩
/-- a dead block more -/
theorem Eases.ghost {P : Program} {h0 : AH} {a : Array Value} {h : AH} : Eases P h0 a h a (h ++ [.dead]) := by
  intro f0 w0 f a' w s0 g
  have hcase : ∀ (b : Nat) (x : AObj), (h ++ [.dead])[b]? = some x → x.alive = true → b < h.length ∧ h[b]? = some x := by
    intro b x hb ha
    by_cases hl : b < h.length
    · rw [List.getElem?_append_left hl] at hb; exact ⟨hl, hb⟩
    · rw [List.getElem?_append_right (by omega)] at hb
      have h1 := (List.getElem?_eq_some_iff.1 hb).1
      simp at h1
      have : b - h.length = 0 := by omega
      rw [this] at hb; simp at hb; subst hb; cases ha
  refine ⟨f, ⟨fun b o hb ha => ?_, fun b b' o o' hb hb' ha ha' hrw hne => ?_, g.sim.glob, by have := g.sim.size; simp; omega, fun r ds hr => ⟨(g.sim.rom r ds hr).1, fun b o hb ho => (g.sim.rom r ds hr).2 b o (hcase b o hb (rw_alive ho)).2 ho⟩, g.sim.laid, fun b o hb => ?_⟩,
    g.tm.mono (by simp) (.refl _ _), g.df.ren (fun b o hb ho => ⟨b, o, (hcase b o hb (rw_alive ho)).2, ho, rfl⟩), g.keep, fun b o hb ho => g.own b o (hcase b o hb (rw_alive ho)).2 ho, g.agree, by have := g.len; simp; omega⟩
  · obtain ⟨o', h1, h2⟩ := g.sim.obj b o (hcase b o hb ha).2 ha
    exact ⟨o', h1, h2.mono (by simp) (.refl _ _)⟩
  · exact g.sim.sep b b' o o' (hcase b o hb ha).2 (hcase b' o' hb' ha').2 ha ha' hrw hne
  · by_cases ha : o.alive = true
    · exact g.sim.ok b o (hcase b o hb ha).2
    · cases o <;> first | trivial | exact absurd rfl ha
/-! ### what is not needed any more -/
/-- a value stays, or is forgotten -/
inductive Keeps (L : Nat) : List Value → List Value → Prop
  | nil : Keeps L [] []
  | junk (v : Value) {l l1 : List Value} (r : Keeps L l l1) : Keeps L (v :: l) (Am.junk :: l1)
  | keep {v : Value} {l l1 : List Value} (h : VRen id L v v) (r : Keeps L l l1) : Keeps L (v :: l) (v :: l1)
theorem Keeps.length {L : Nat} {l l1 : List Value} (h : Keeps L l l1) : l1.length = l.length := by induction h <;> simp_all
theorem Keeps.get {L : Nat} {l l1 : List Value} (h : Keeps L l l1) : ∀ i : Nat, VRen id L (l1.getD i Am.junk) (l.getD i Am.junk) := by
  induction h with
  | nil => intro i; simp; exact .junk _
  | junk v _ ih => intro i; cases i with
    | zero => simpa using VRen.junk v
    | succ i => simpa using ih i
  | keep h _ ih => intro i; cases i with
    | zero => simpa using h
    | succ i => simpa using ih i
/-- the blocks behind are dropped -/
theorem Eases.tail {P : Program} {h0 hk x : AH} {l l1 : List Value} (hle : h0.length ≤ hk.length) (hobj : ∀ b o, hk[b]? = some o → o.alive = true → (b < h0.length ∧ h0[b]? = some o) ∨ ORen id hk.length o o) (hv : Keeps hk.length l l1) :
    Eases P h0 l.toArray (hk ++ x) l1.toArray hk := by
  refine Forget.eases (.inr ⟨id, ⟨hle, fun b hb => rfl, fun b o1 hb ha => ⟨o1, ?_, ?_⟩, fun b b' _ _ e => e⟩, by simpa using hv.length, fun i => ?_⟩)
  · show (hk ++ x)[b]? = _
    rw [List.getElem?_append_left (List.getElem?_eq_some_iff.1 hb).1]; exact hb
  · rcases hobj b o1 hb ha with ⟨h1, h2⟩ | h3
    · exact .inl ⟨h1, h2, rfl⟩
    · exact .inr h3
  · have := hv.get i
    simpa [Array.getD_eq_getD_getElem?, List.getD] using this
/-- objects that name no block -/
def treeObj : AObj → Prop
  | .dead => True
  | .cells c _ _ => ∀ i : Nat, Tree (c.getD i Am.junk)
  | .map _ es _ => ∀ e ∈ es.toList, Tree e.val
  | .miter .. => False
theorem treeObj.ren {L : Nat} {o : AObj} (h : treeObj o) : ORen id L o o := by
  cases o with
  | dead => trivial
  | cells c es rw => exact ⟨c, rfl, rfl, fun i => (h i).ren⟩
  | map k es clock => exact ⟨es, rfl, rfl, fun i e he => ⟨e, he, rfl, rfl, (h e (by have := Array.mem_of_getElem? he; simpa using this)).ren⟩⟩
  | miter m s seen st => exact h.elim
/-- the blocks behind the first new ones are dropped -/
theorem Eases.drop {P : Program} {h0 t x : AH} {l l1 : List Value} (ht : ∀ o ∈ t, ORen id (h0.length + t.length) o o) (hv : Keeps (h0.length + t.length) l l1) :
    Eases P h0 l.toArray (h0 ++ t ++ x) l1.toArray (h0 ++ t) := by
  refine Eases.tail (by simp) (fun b o hb ha => ?_) (by simpa using hv)
  by_cases hl : b < h0.length
  · rw [List.getElem?_append_left hl] at hb; exact .inl ⟨hl, hb⟩
  · rw [List.getElem?_append_right (by omega)] at hb
    exact .inr (by simpa using ht o (List.mem_of_getElem? hb))
end Go.Am

set_option linter.unusedVariables false
set_option linter.unusedSimpArgs false
set_option linter.unusedSectionVars false
/- Maps axs functions. -/
namespace Go.Am
open Go
/-- a map's keys' type, its elements' zero -/
def mp (P : Program) (t : TypeId) : Option (TypeId × Value) :=
  match P.underlying t with
  | some (.map k e) => (zeroOf P e).map fun z => (k, z)
  | _ => none
theorem mp_spec {P : Program} {t k : TypeId} {z : Value} (h : mp P t = some (k, z)) : ∃ e, P.underlying t = some (.map k e) ∧ zeroOf P e = some z := by
  unfold mp at h
  split at h
  · rename_i k' e hu
    simp only [Option.map_eq_some_iff, Prod.mk.injEq] at h
    obtain ⟨z', hz, rfl, rfl⟩ := h
    exact ⟨e, hu, hz⟩
  · cases h
section
variable {P : Program} {h : AH} {t k : TypeId} {z key v : Value} {b clock : Nat} {es : Array MapEntry} {ok : Bool}
theorem amMake_eq (ht : mp P t = some (k, z)) (hy : keyTy P k = true) : amMake P h t = some (.map (some h.length), h ++ [.map k #[] 0]) := by
  obtain ⟨e, hu, hz⟩ := mp_spec ht
  simp only [amMake, hu, hy, if_true]
/-- the entry of a key that is there -/
theorem amEntry_some {j : Nat} {x : MapEntry} (ht : mp P t = some (k, z)) (hk : keyed P k key = true) (hb : h[b]? = some (.map k es clock)) (hf : findK key es.toList 0 = some (j, x)) : amEntry P h t (.map (some b)) key = some (.tuple #[x.val, .int .i64 (x.born : Nat)], h.set b (.map k (es.modify j fun e => { e with key := key }) clock)) := by
  obtain ⟨e, hu, hz⟩ := mp_spec ht
  simp only [amEntry, hu, hz, hk, if_true, hb, hf]
theorem amEntry_none (ht : mp P t = some (k, z)) (hk : keyed P k key = true) (hb : h[b]? = some (.map k es clock)) (hf : findK key es.toList 0 = none) : amEntry P h t (.map (some b)) key = some (.tuple #[z, .int .i64 (clock : Nat)], h.set b (.map k (es.push ⟨key, z, clock⟩) (clock + 1))) := by
  obtain ⟨e, hu, hz⟩ := mp_spec ht
  simp only [amEntry, hu, hz, hk, if_true, hb, hf]
theorem amUpdate_some {j : Nat} {x : MapEntry} (ht : mp P t = some (k, z)) (hk : keyed P k key = true) (hb : h[b]? = some (.map k es clock)) (hf : findK key es.toList 0 = some (j, x)) : amUpdate P h t (.map (some b)) key v = some (h.set b (.map k (es.modify j fun e => { e with key := key, val := v }) clock)) := by
  obtain ⟨e, hu, hz⟩ := mp_spec ht
  simp only [amUpdate, hu, hk, if_true, hb, hf]
theorem amUpdate_none (ht : mp P t = some (k, z)) (hk : keyed P k key = true) (hb : h[b]? = some (.map k es clock)) (hf : findK key es.toList 0 = none) : amUpdate P h t (.map (some b)) key v = some (h.set b (.map k (es.push ⟨key, v, clock⟩) (clock + 1))) := by
  obtain ⟨e, hu, hz⟩ := mp_spec ht
  simp only [amUpdate, hu, hk, if_true, hb, hf]
theorem findIdx_born {es : List MapEntry} (hn : (es.map (·.born)).Nodup) : ∀ {j : Nat} {x : MapEntry}, es[j]? = some x → es.findIdx? (fun e => (e.born : Int) == (x.born : Int)) = some j := by
  induction es with
  | nil => intro j x h; simp at h
  | cons e es ih =>
    intro j x h
    simp only [List.map_cons, List.nodup_cons] at hn
    cases j with
    | zero =>
      rw [List.getElem?_cons_zero] at h; cases h
      rw [List.findIdx?_cons, if_pos (by simp)]
    | succ j =>
      rw [List.getElem?_cons_succ] at h
      have hne : e.born ≠ x.born := fun e1 => hn.1 (by rw [e1]; exact List.mem_map_of_mem (List.mem_of_getElem? h))
      rw [List.findIdx?_cons]
      have : ((e.born : Int) == (x.born : Int)) = false := by rw [beq_eq_false_iff_ne]; omega
      rw [this, ih hn.2 h]
      rfl
theorem arr_findIdx (a : Array MapEntry) (p : MapEntry → Bool) : a.findIdx? p = a.toList.findIdx? p := by obtain ⟨l⟩ := a; simp
/-- an entry that was made, written -/
theorem store_new (m : MapOk P k es.toList clock) (hb : b < h.length) : amEntryStore (h.set b (.map k (es.push ⟨key, z, clock⟩) (clock + 1))) (.map (some b)) (.int .i64 (clock : Nat)) v = some (h.set b (.map k (es.push ⟨key, v, clock⟩) (clock + 1))) := by
  have hno : es.toList.findIdx? (fun e => (e.born : Int) == (clock : Int)) = none := by
    rw [List.findIdx?_eq_none_iff]
    intro e he
    have := m.old e he
    rw [beq_eq_false_iff_ne]; omega
  have e1 : (es.push ⟨key, z, clock⟩).findIdx? (fun e => (e.born : Int) == (clock : Int)) = some es.size := by
    rw [arr_findIdx, Array.toList_push, List.findIdx?_append, hno]
    have e2 : [(⟨key, z, clock⟩ : MapEntry)].findIdx? (fun e => (e.born : Int) == (clock : Int)) = some 0 := by
      rw [List.findIdx?_cons, if_pos (by simp)]
    rw [e2]; simp
  simp only [amEntryStore, List.getElem?_set_self hb, e1, List.set_set]
  congr 3
  apply Array.ext'
  rw [Array.toList_modify, Array.toList_push, Array.toList_push]
  apply List.ext_getElem?
  intro i
  rw [List.getElem?_modify]
  by_cases hi : i < es.size
  · rw [List.getElem?_append_left (by simpa using hi), List.getElem?_append_left (by simpa using hi)]
    have hne : ¬ (es.size = i) := by omega
    simp [hne]
  · rw [List.getElem?_append_right (by simpa using hi), List.getElem?_append_right (by simpa using hi)]
    by_cases he : es.size = i
    · subst he; simp
    · simp only [he, if_false]
      obtain ⟨q, hq⟩ := Nat.exists_eq_succ_of_ne_zero (show i - es.toList.length ≠ 0 by simp; omega)
      rw [hq]; simp
/-- an entry that is there, written -/
theorem store_old {j : Nat} {x : MapEntry} (m : MapOk P k es.toList clock) (hk : keyed P k key = true) (hf : findK key es.toList 0 = some (j, x)) (hb : b < h.length) : amEntryStore (h.set b (.map k (es.modify j fun e => { e with key := key }) clock)) (.map (some b)) (.int .i64 (x.born : Nat)) v = some (h.set b (.map k (es.modify j fun e => { e with key := key, val := v }) clock)) := by
  obtain ⟨_, g1, g2⟩ := findK_some hk es.toList 0 m.keys hf
  simp only [Nat.sub_zero] at g1
  have e0 : (es.toList.modify j fun e => { e with key := key }).map (·.born) = es.toList.map (·.born) := modify_born fun e => rfl
  have e1 : (es.modify j fun e => { e with key := key }).findIdx? (fun e => (e.born : Int) == (x.born : Int)) = some j := by
    rw [arr_findIdx, Array.toList_modify]
    have e2 : ∀ l : List MapEntry, l.findIdx? (fun e => (e.born : Int) == (x.born : Int)) = (l.map fun (y : MapEntry) => y.born).findIdx? (fun (b : Nat) => (b : Int) == (x.born : Int)) := fun l => by
      rw [List.findIdx?_map]; rfl
    rw [e2, e0, ← e2]
    exact findIdx_born m.born g1
  simp only [amEntryStore, List.getElem?_set_self hb, e1, List.set_set]
  congr 3
  apply Array.ext'
  rw [Array.toList_modify, Array.toList_modify, Array.toList_modify]
  apply List.ext_getElem?
  intro i
  simp only [List.getElem?_modify]
  cases es.toList[i]? with
  | none => rfl
  | some e => by_cases hij : j = i <;> simp [hij]
/-- the same, at a heap that holds such a map -/
theorem store_new' {H : AH} (m : MapOk P k es.toList clock) (hb : H[b]? = some (.map k (es.push ⟨key, z, clock⟩) (clock + 1))) : amEntryStore H (.map (some b)) (.int .i64 (clock : Nat)) v = some (H.set b (.map k (es.push ⟨key, v, clock⟩) (clock + 1))) := by
  have := store_new (h := H) (key := key) (z := z) (v := v) m (List.getElem?_eq_some_iff.1 hb).1
  rwa [set_same hb] at this
theorem store_old' {H : AH} {j : Nat} {x : MapEntry} (m : MapOk P k es.toList clock) (hk : keyed P k key = true) (hf : findK key es.toList 0 = some (j, x)) (hb : H[b]? = some (.map k (es.modify j fun e => { e with key := key }) clock)) : amEntryStore H (.map (some b)) (.int .i64 (x.born : Nat)) v = some (H.set b (.map k (es.modify j fun e => { e with key := key, val := v }) clock)) := by
  have := store_old (h := H) (v := v) m hk hf (List.getElem?_eq_some_iff.1 hb).1
  rwa [set_same hb] at this
end
/-- what a map holds, axs a function -/
structure MFun {K V : Type} (P : Program) (k : TypeId) (encK : K → Value) (encV : V → Value) (es : Array MapEntry) (clock : Nat) (f : K → Option V) : Prop where
  ok : MapOk P k es.toList clock
  keyed : ∀ x, keyed P k (encK x) = true
  inj : ∀ x y, encK x = encK y → x = y
  at_ : ∀ x, (findK (encK x) es.toList 0).map (fun p => p.2.val) = (f x).map encV
  keys : ∀ e ∈ es.toList, ∃ x, e.key = encK x
  vals : ∀ e ∈ es.toList, ∃ v, e.val = encV v
section
variable {K V : Type} [DecidableEq K] {P : Program} {k : TypeId} {encK : K → Value} {encV : V → Value} {es : Array MapEntry} {clock : Nat} {f : K → Option V}
theorem MFun.empty (hy : keyTy P k = true) (hk : ∀ x : K, Am.keyed P k (encK x) = true) (hi : ∀ x y, encK x = encK y → x = y) : MFun P k encK encV #[] 0 (fun _ => Option.none) :=
  ⟨⟨hy, by simp, by simp, by simp, by simp⟩, hk, hi, fun x => rfl, by simp, by simp⟩
theorem MFun.look (m : MFun P k encK encV es clock f) (ok : Bool) (z : V) (x : K) : lookK ok (encV z) (encK x) es.toList = lookRes ok (encV ((f x).getD z)) (f x).isSome := by
  have := m.at_ x
  unfold lookK
  cases hf : findK (encK x) es.toList 0 with
  | none => rw [hf] at this; cases hx : f x with
    | none => rfl
    | some v => rw [hx] at this; cases this
  | some p => rw [hf] at this; cases hx : f x with
    | none => rw [hx] at this; cases this
    | some v => rw [hx] at this; simp at this; simp [this]
theorem MFun.find_none (m : MFun P k encK encV es clock f) {x : K} (h : f x = Option.none) : findK (encK x) es.toList 0 = Option.none := by
  have := m.at_ x
  rw [h] at this
  simpa using this
theorem MFun.find_some (m : MFun P k encK encV es clock f) {x : K} {v : V} (h : f x = some v) : ∃ j e, findK (encK x) es.toList 0 = some (j, e) ∧ e.val = encV v := by
  have := m.at_ x
  rw [h] at this
  simp only [Option.map_some, Option.map_eq_some_iff] at this
  obtain ⟨⟨j, e⟩, h1, h2⟩ := this
  exact ⟨j, e, h1, h2⟩
/-- a new entry -/
theorem MFun.push (m : MFun P k encK encV es clock f) {x : K} (h : f x = Option.none) (v : V) : MFun P k encK encV (es.push ⟨encK x, encV v, clock⟩) (clock + 1) (fun y => if y = x then some v else f y) := by
  have hno := (findK_none (m.keyed x) es.toList 0 m.ok.keys).1 (m.find_none h)
  refine ⟨by rw [Array.toList_push]; exact mapOk_push m.ok (m.keyed x) hno, m.keyed, m.inj, fun y => ?_, fun e he => ?_, fun e he => ?_⟩
  · rw [Array.toList_push, findK_append]
    have := m.at_ y
    cases hf : findK (encK y) es.toList 0 with
    | none =>
      rw [hf] at this
      simp only [findK]
      by_cases hy : y = x
      · subst hy
        rw [if_pos ((sameKey_iff (m.keyed y) (m.keyed y)).2 rfl), if_pos rfl]
        rfl
      · rw [if_neg (fun e => hy (m.inj _ _ ((sameKey_iff (m.keyed x) (m.keyed y)).1 e)).symm), if_neg hy]
        exact this
    | some p =>
      rw [hf] at this
      by_cases hy : y = x
      · subst hy; rw [m.find_none h] at hf; cases hf
      · rw [if_neg hy]; exact this
  · rw [Array.toList_push] at he
    rcases List.mem_append.1 he with he | he
    · exact m.keys e he
    · simp at he; subst he; exact ⟨x, rfl⟩
  · rw [Array.toList_push] at he
    rcases List.mem_append.1 he with he | he
    · exact m.vals e he
    · simp at he; subst he; exact ⟨v, rfl⟩
/-- an entry written -/
theorem MFun.modify (m : MFun P k encK encV es clock f) {x : K} {j : Nat} {e : MapEntry} (h : findK (encK x) es.toList 0 = some (j, e)) (v : V) : MFun P k encK encV (es.modify j fun e => { e with key := encK x, val := encV v }) clock (fun y => if y = x then some v else f y) := by
  obtain ⟨_, g1, g2⟩ := findK_some (m.keyed x) es.toList 0 m.ok.keys h
  simp only [Nat.sub_zero] at g1
  refine ⟨mapOk_of m.ok (by rw [Array.toList_modify]; exact modify_keys fun e' he => by rw [g1] at he; cases he; exact g2.symm) (by rw [Array.toList_modify]; exact modify_born fun e => rfl), m.keyed, m.inj, fun y => ?_, fun e' he => ?_, fun e' he => ?_⟩
  · have := findK_modify (m.keyed x) (m.keyed y) (g := fun e => { e with key := encK x, val := encV v }) (fun _ => rfl) es.toList 0 m.ok.keys h
    rw [Nat.sub_zero] at this
    rw [Array.toList_modify, this]
    by_cases hy : y = x
    · subst hy; rw [if_pos ((sameKey_iff (m.keyed y) (m.keyed y)).2 rfl), if_pos rfl]; rfl
    · rw [if_neg (fun e1 => hy (m.inj _ _ ((sameKey_iff (m.keyed x) (m.keyed y)).1 e1)).symm), if_neg hy]; exact m.at_ y
  · rw [Array.toList_modify] at he
    obtain ⟨i, hi⟩ := List.mem_iff_getElem?.1 he
    rw [List.getElem?_modify] at hi
    simp only [Option.map_eq_map, Option.map_eq_some_iff] at hi
    obtain ⟨e0, h0, h1⟩ := hi
    obtain ⟨y, hy⟩ := m.keys e0 (List.mem_of_getElem? h0)
    split at h1
    · subst h1; exact ⟨x, rfl⟩
    · subst h1; exact ⟨y, hy⟩
  · rw [Array.toList_modify] at he
    obtain ⟨i, hi⟩ := List.mem_iff_getElem?.1 he
    rw [List.getElem?_modify] at hi
    simp only [Option.map_eq_map, Option.map_eq_some_iff] at hi
    obtain ⟨e0, h0, h1⟩ := hi
    obtain ⟨y, hy⟩ := m.vals e0 (List.mem_of_getElem? h0)
    split at h1
    · subst h1; exact ⟨v, rfl⟩
    · subst h1; exact ⟨y, hy⟩
end
end Go.Am

set_option linter.unusedVariables false
set_option linter.unusedSimpArgs false
/- The rules of a walk. -/
namespace Go.Am
open Go
theorem blit_list {c : Array Value} {l : List Value} (h : l.length = c.size) : blit c 0 l = l.toArray := by
  have := blit_whole c l.toArray.toList (by simp [h])
  simpa using this
theorem extract_full {l : List Value} {n : Nat} (h : l.length = n) : l.toArray.extract 0 n = l.toArray := by subst h; simp
theorem ofNat_lt' {m n : Nat} : ((m : Int) < (n : Int)) = (m < n) := by simp
theorem ofNat_le' {m n : Nat} : ((m : Int) ≤ (n : Int)) = (m ≤ n) := by simp
theorem ofNat_nonneg' {m : Nat} : (0 ≤ (m : Int)) = True := by simp
theorem ofNat_succ' {m : Nat} : (m : Int) + 1 = ((m + 1 : Nat) : Int) := by omega
/-- one row begins axs another one -/
def Pre : List AObj → List AObj → Prop
  | [], _ => True
  | a :: l, b :: l' => a = b ∧ Pre l l'
  | _ :: _, [] => False
theorem Pre.get : ∀ {l l' : List AObj}, Pre l l' → ∀ i, i < l.length → l'[i]? = l[i]?
  | a :: l, b :: l', h, 0, _ => by rw [h.1]; rfl
  | a :: l, b :: l', h, i + 1, hi => by simpa using Pre.get h.2 i (by simpa using hi)
theorem pre_nil {l : List AObj} : Pre [] l = True := rfl
theorem pre_cons {a : AObj} {l l' : List AObj} : Pre (a :: l) (a :: l') = Pre l l' := by simp [Pre]
theorem leaves_pre {h l l' : AH} {rest : List Oper} {o : Oper} (hp : Pre l l') : leaves (h ++ l) rest o (h ++ l') = True := by
  simp only [eq_iff_iff, iff_true]
  refine .inl fun b hb => ?_
  by_cases hl : b < h.length
  · rw [List.getElem?_append_left hl, List.getElem?_append_left hl]
  · rw [List.getElem?_append_right (by omega), List.getElem?_append_right (by omega)]
    exact hp.get _ (by simp at hb; omega)
theorem leaves_app {h l : AH} {rest : List Oper} {o : Oper} : leaves h rest o (h ++ l) = True := by
  simp only [eq_iff_iff, iff_true]
  exact .inl fun b hb => List.getElem?_append_left hb
theorem leaves_same {h : AH} {rest : List Oper} {o : Oper} : leaves h rest o h = True := by
  simp only [eq_iff_iff, iff_true]
  exact .inl fun b hb => rfl
def mkLook (ok : Bool) (k : TypeId) (z key : Value) : Option AObj → Option Value
  | some (.map k' es _) => if k' = k then some (lookK ok z key es.toList) else none
  | _ => none
def mkEnt (h : AH) (b : Nat) (k : TypeId) (z key : Value) : Option AObj → Option (Value × AH)
  | some (.map k' es clock) => if k' = k then (match findK key es.toList 0 with
    | some (j, x) => some (.tuple #[x.val, .int .i64 (x.born : Nat)], h.set b (.map k (es.modify j fun e => { e with key := key }) clock))
    | none => some (.tuple #[z, .int .i64 (clock : Nat)], h.set b (.map k (es.push ⟨key, z, clock⟩) (clock + 1)))) else none
  | _ => none
def mkUpd (h : AH) (b : Nat) (k : TypeId) (key v : Value) : Option AObj → Option AH
  | some (.map k' es clock) => if k' = k then (match findK key es.toList 0 with
    | some (j, _) => some (h.set b (.map k (es.modify j fun e => { e with key := key, val := v }) clock))
    | none => some (h.set b (.map k (es.push ⟨key, v, clock⟩) (clock + 1)))) else none
  | _ => none
section
variable {P : Program} {h : AH} {t k : TypeId} {z key v : Value} {b : Nat} {ok : Bool}
theorem amLookup_mk (ht : mp P t = some (k, z)) (hk : keyed P k key = true) : amLookup P h t (.map (some b)) key ok = mkLook ok k z key h[b]? := by
  obtain ⟨e, hu, hz⟩ := mp_spec ht
  simp only [amLookup, hu, hz, hk, if_true]
  cases hb : h[b]? with
  | none => rfl
  | some o => cases o with
    | map k' es clock =>
      simp only [mkLook, lookK]
      split
      · cases findK key es.toList 0 with
        | none => rfl
        | some p => rfl
      · rfl
    | _ => rfl
theorem amUpdate_mk (ht : mp P t = some (k, z)) (hk : keyed P k key = true) : amUpdate P h t (.map (some b)) key v = mkUpd h b k key v h[b]? := by
  obtain ⟨e, hu, hz⟩ := mp_spec ht
  simp only [amUpdate, hu, hk, if_true]
  cases hb : h[b]? with
  | none => rfl
  | some o => cases o <;> rfl
end
/-! which values lie in cells -/
theorem sto_int {k : IntKind} {n : Int} : storable (.int k n) = true := rfl
theorem cells_int {k : IntKind} {n : Int} : Value.cells (.int k n) = #[(.int k n)] := rfl
theorem sto_string {x : ByteArray} : storable (.string x) = true := rfl
theorem cells_string {x : ByteArray} : Value.cells (.string x) = #[(.string x)] := rfl
theorem sto_slice {p : Option Addr} {l c : Nat} : storable (.slice p l c) = true := rfl
theorem cells_slice {p : Option Addr} {l c : Nat} : Value.cells (.slice p l c) = #[(.slice p l c)] := rfl
theorem sto_map {m : Option Nat} : storable (.map m) = true := rfl
theorem cells_map {m : Option Nat} : Value.cells (.map m) = #[(.map m)] := rfl
theorem sto_agg {c : Array Value} : storable (.agg c) = true := rfl
theorem cells_agg {c : Array Value} : Value.cells (.agg c) = c := rfl
theorem sto_outV {α : Type} {b : Nat} {l : List α} : storable (outV b l) = true := by cases l <;> rfl
theorem cells_outV {α : Type} {b : Nat} {l : List α} : Value.cells (outV b l) = #[outV b l] := by cases l <;> rfl
attribute [go_sem] sto_int cells_int sto_string cells_string sto_slice cells_slice sto_map cells_map sto_agg cells_agg sto_outV cells_outV
attribute [go_sem ↓] cells_agg cells_int cells_map cells_outV cells_slice cells_string sto_agg sto_int sto_map sto_outV sto_slice sto_string
theorem mkApp_n {h : AH} {g : Bool} {m by_ n : Nat} {new : Array Value} : mkApp h (.slice none 0 0) (some (g, m, by_)) (some (n, new)) = if n = 0 then some (.slice none 0 0, h) else
    if (2 * n + 192) * by_ ≤ 2 ^ 48 ∧ n < 2 ^ 62 then some (.slice (some ⟨h.length, 0, none⟩) n n, h ++ [.cells new m true]) else none := rfl
def mkAppS (h : AH) (b o len cap m by_ n : Nat) (new : Array Value) : Option AObj → Option (Value × AH)
  | some (.cells c es true) =>
              if o + len * m ≤ c.size ∧ es = m then
                if len + n ≤ cap then
                  if o + (len + n) * m ≤ c.size then some (.slice (some ⟨b, o, none⟩) (len + n) cap, h.set b (.cells (blit c (o + len * m) new.toList) es true)) else none
                else if (2 * (len + n) + 192) * by_ ≤ 2 ^ 48 ∧ len + n < 2 ^ 62 then
                  some (.slice (some ⟨h.length, 0, none⟩) (len + n) (len + n), h.set b .dead ++ [.cells (c.extract o (o + len * m) ++ new) m true]) else none
              else none
  | _ => none
theorem mkApp_s {h : AH} {g : Bool} {b o len cap m by_ n : Nat} {new : Array Value} : mkApp h (.slice (some ⟨b, o, none⟩) len cap) (some (g, m, by_)) (some (n, new)) =
    if n = 0 ∧ len ≤ cap then some (.slice (some ⟨b, o, none⟩) len cap, h) else mkAppS h b o len cap m by_ n new h[b]? := by
  unfold mkApp mkAppS
  simp only
  split
  · rfl
  · cases h[b]? with
    | none => rfl
    | some x => cases x with
      | cells c es rw => cases rw <;> rfl
      | _ => rfl
theorem lt_tag {n : Nat} (h : n < 1099511627776) : n < tagN := h
attribute [go_sem] mkApp_n mkApp_s mkAppS orT_some lt_tag
theorem zeros_2 {z : Value} : zeros #[z] 2 = #[z, z] := by unfold zeros; rw [show Array.range 2 = #[0, 1] from rfl]; simp
theorem zeros_22 {y z : Value} : zeros #[y, z] 2 = #[y, z] := by unfold zeros; rw [show Array.range 2 = #[0, 1] from rfl]; simp
attribute [go_sem] zeros_2 zeros_22 List.setIfInBounds_toArray
attribute [go_sem] mkLook mkEnt mkUpd pre_nil pre_cons leaves_pre leaves_app leaves_same isWriter isLoad
attribute [go_sem ↓] ay_skip ay_region ay_draw ay_seq ay_block ay_exit ay_ret ay_loop ay_cond thenA_normal thenA_ret thenA_exit inBlockA_normal inBlockA_ret inBlockA_exit awl_nil awl_cons awl_guard agate_false agate_true astep_val astep_skip awd_nil awd_gate dgate_true dvstep_val dstep_val dstep_skip astep_any
attribute [go_sem] ycond_bool isV aop_move aop_assign aop_pick apick_bool aop_alloc aop_box aop_build aop_buildSlice aop_load aop_store aop_nilCheck aop_binOp aop_unOp aop_convert aop_makeFunc aop_makeMap aop_slice aop_fieldAddr aop_field aop_indexAddr aop_extract aop_call aop_len aop_append blit_all blit_one' acompare_rows mkCmp asource_row srcRow wrap_i64_of Int.cast_ofNat_Int Nat.min_eq_left aval_val avalh_val askip_skip aeval_tmp aeval_func aeval_int aeval_bool aeval_string aeval_nilSlice aeval_nilFunc aeval_nilPtr acall_func gval abin_add abin_sub abin_quo abin_eql abin_neq abin_lss abin_leq abin_gtr abin_geq aun_not abox_agg abox_int abox_slice abox_map abox_pointer mkLoad mkStore mkFieldAddr mkField mkIndexA mkIndexS mkAlloc mkBuild mkBuildA mkBuildS mkSliceS mkSliceA mkSrc afill abounds abound aextract anilCheck aput_lit aput_none getD_lit at_new at_new0 set_new set_new0 List.append_assoc List.set_cons_succ List.set_cons_zero List.getD_cons_succ List.getD_cons_zero List.getElem?_cons_succ List.getElem?_cons_zero List.getElem?_nil List.cons_append List.nil_append List.append_nil List.map_cons List.map_nil Option.map_some Option.map_none Option.bind_some List.getElem?_toArray List.length_cons List.length_nil List.length_append if_true if_false ite_self cond_true cond_false true_and and_true and_self true_implies false_implies implies_true forall_const Bool.false_eq_true Bool.true_eq_false Bool.not_true Bool.not_false Bool.and_true Bool.true_and Bool.and_false Bool.false_and Bool.or_true Bool.or_false decide_true decide_false ne_eq not_false_eq_true not_true_eq_false Option.some.injEq Option.isSome_some beq_self_eq_true beq_ft beq_tf Nat.zero_add Nat.add_zero Nat.zero_mul Nat.one_mul Nat.mul_one Int.toNat_natCast Int.toNat_zero Int.toNat_one aop_delete aop_clear aop_lookup aop_mapUpdate aop_mapEntry aop_entryStore aop_range aop_next aop_entry mkFieldAddrF mkIndexZ
attribute [go_sem] List.size_toArray extract_full
attribute [go_sem] alen_slV aindex_slV alen_outV Sl.piece ofNat_lt' ofNat_le' ofNat_nonneg'
end Go.Am

set_option linter.unusedVariables false
set_option linter.unusedSimpArgs false
/- Arguments axs values of Lean's own types. -/
namespace Go.Am
open Go
/-- whatever comes in axs cells of these types is a value of Lean's -/
def Decs {α : Type} (P : Program) (ts : List TypeId) (enc : α → List Value) (ok : α → Prop) : Prop :=
  ∀ cs : List Value, cs.length = ts.length → (∀ i : Nat, i < ts.length → TLeaf P (ts.getD i 0) (cs.getD i junk)) → ∃ x, cs = enc x ∧ ok x
section
variable {P : Program} {t e : TypeId} {α β : Type}
theorem one_cell {cs : List Value} (h : cs.length = [t].length) : ∃ v, cs = [v] := by
  match cs, h with
  | [v], _ => exact ⟨v, rfl⟩
theorem Decs.u8 (hu : P.underlying t = some (.int .u8)) : Decs P [t] (fun b : UInt8 => [Value.int .u8 b.toNat]) (fun _ => True) := by
  intro cs hl h
  obtain ⟨v, rfl⟩ := one_cell hl
  obtain ⟨n, e, hw⟩ := (h 0 (by simp)).int_inv (k := .u8) hu
  simp only [List.getD_cons_zero] at e
  subst e
  simp [Lit.wf, IntKind.min, IntKind.max, IntKind.signed, IntKind.bits] at hw
  refine ⟨UInt8.ofNat n.toNat, ?_, trivial⟩
  have : (UInt8.ofNat n.toNat).toNat = n.toNat := by simp; omega
  show [_] = [Value.int _ _]
  rw [this, Int.toNat_of_nonneg (by omega)]
theorem Decs.u64 (hu : P.underlying t = some (.int .u64)) : Decs P [t] (fun b : UInt64 => [Value.int .u64 b.toNat]) (fun _ => True) := by
  intro cs hl h
  obtain ⟨v, rfl⟩ := one_cell hl
  obtain ⟨n, e, hw⟩ := (h 0 (by simp)).int_inv (k := .u64) hu
  simp only [List.getD_cons_zero] at e
  subst e
  simp [Lit.wf, IntKind.min, IntKind.max, IntKind.signed, IntKind.bits] at hw
  refine ⟨UInt64.ofNat n.toNat, ?_, trivial⟩
  have : (UInt64.ofNat n.toNat).toNat = n.toNat := by simp; omega
  show [_] = [Value.int _ _]
  rw [this, Int.toNat_of_nonneg (by omega)]
theorem Decs.int {k : IntKind} (hu : P.underlying t = some (.int k)) : Decs P [t] (fun n : Int => [Value.int k n]) (fun n => (Lit.int k n).wf = true) := by
  intro cs hl h
  obtain ⟨v, rfl⟩ := one_cell hl
  obtain ⟨n, e, hw⟩ := (h 0 (by simp)).int_inv hu
  simp only [List.getD_cons_zero] at e
  subst e
  exact ⟨n, rfl, hw⟩
theorem Decs.bool (hu : P.underlying t = some .bool) : Decs P [t] (fun b : Bool => [Value.bool b]) (fun _ => True) := by
  intro cs hl h
  obtain ⟨v, rfl⟩ := one_cell hl
  obtain ⟨b, e⟩ := (h 0 (by simp)).bool_inv hu
  simp only [List.getD_cons_zero] at e
  subst e
  exact ⟨b, rfl, trivial⟩
theorem Decs.string (hu : P.underlying t = some .string) : Decs P [t] (fun s : ByteArray => [Value.string s]) (fun s => s.size ≤ maxLen) := by
  intro cs hl h
  obtain ⟨v, rfl⟩ := one_cell hl
  obtain ⟨b, e, hb⟩ := (h 0 (by simp)).string_inv hu
  simp only [List.getD_cons_zero] at e
  subst e
  exact ⟨b, rfl, hb⟩
theorem Decs.append {ts1 ts2 : List TypeId} {enc1 : α → List Value} {enc2 : β → List Value} {ok1 : α → Prop} {ok2 : β → Prop} (h1 : Decs P ts1 enc1 ok1) (h2 : Decs P ts2 enc2 ok2) :
    Decs P (ts1 ++ ts2) (fun p : α × β => enc1 p.1 ++ enc2 p.2) (fun p => ok1 p.1 ∧ ok2 p.2) := by
  intro cs hl h
  simp only [List.length_append] at hl
  obtain ⟨x, hx, ox⟩ := h1 (cs.take ts1.length) (by simp; omega) fun i hi => by
    have := h i (by simp; omega)
    simp only [List.getD_eq_getElem?_getD, List.getElem?_append_left hi] at this
    simpa [List.getD_eq_getElem?_getD, List.getElem?_take, hi] using this
  obtain ⟨y, hy, oy⟩ := h2 (cs.drop ts1.length) (by simp; omega) fun i hi => by
    have := h (ts1.length + i) (by simp; omega)
    simp only [List.getD_eq_getElem?_getD, List.getElem?_append_right (Nat.le_add_right _ _), Nat.add_sub_cancel_left] at this
    simpa [List.getD_eq_getElem?_getD, List.getElem?_drop] using this
  exact ⟨(x, y), by show _ = enc1 x ++ enc2 y; rw [← hx, ← hy, List.take_append_drop], ox, oy⟩
theorem Decs.to {ts : List TypeId} {enc : α → List Value} {enc' : β → List Value} {ok : α → Prop} {ok' : β → Prop} (h : Decs P ts enc ok) (g : α → β) (hg : ∀ x, enc x = enc' (g x)) (ho : ∀ x, ok x → ok' (g x)) : Decs P ts enc' ok' := by
  intro cs hl hc
  obtain ⟨x, hx, ox⟩ := h cs hl hc
  exact ⟨g x, by rw [hx, hg], ho x ox⟩
theorem Decs.vec {f : α → Value} {ok : α → Prop} (h : Decs P [t] (fun x => [f x]) ok) : ∀ n : Nat, Decs P (List.replicate n t) (fun v : Vector α n => v.toList.map f) (fun v => ∀ x ∈ v.toList, ok x) := by
  intro n cs hl hc
  have : ∀ (n : Nat) (cs : List Value), cs.length = n → (∀ i : Nat, i < n → TLeaf P t (cs.getD i junk)) → ∃ l : List α, l.length = n ∧ cs = l.map f ∧ ∀ x ∈ l, ok x := by
    intro n
    induction n with
    | zero => intro cs h0 _; exact ⟨[], rfl, List.length_eq_zero_iff.1 h0, by simp⟩
    | succ n ih =>
      intro cs h1 h2
      match cs, h1 with
      | c :: cs, h1 =>
        obtain ⟨l, g1, g2, g3⟩ := ih cs (by simpa using h1) fun i hi => by simpa using h2 (i + 1) (by omega)
        obtain ⟨x, hx, ox⟩ := h [c] rfl fun i hi => by
          have : i = 0 := by simpa using hi
          subst this
          simpa using h2 0 (by omega)
        simp only [List.cons.injEq, and_true] at hx
        exact ⟨x :: l, by simp [g1], by simp [g2, hx], fun y hy => by rcases List.mem_cons.1 hy with rfl | hy; exact ox; exact g3 y hy⟩
  obtain ⟨l, g1, g2, g3⟩ := this n cs (by simpa using hl) fun i hi => by
    have := hc i (by simpa using hi)
    simpa [List.getD_eq_getElem?_getD, List.getElem?_replicate, hi] using this
  exact ⟨⟨l.toArray, by simpa using g1⟩, by simpa using g2, by simpa using g3⟩
theorem full_l' {α : Type} (l : List α) : (Sl.full l).l = l := rfl
/-- a slice that came in -/
theorem Decs.sliceL {l : List TypeId} {enc : α → List Value} {ok : α → Prop} (hu : P.underlying t = some (.slice e)) (hl : flat P 8 e = some l) (hn : ∀ x, (enc x).length = l.length) (h : Decs P l enc ok) :
    Decs P [t] (fun s : Sl α => [slV enc s]) (fun s => (s.l.length ≤ maxLen ∧ s.l.length * P.bytesOf e ≤ reachBytes) ∧ ∀ x ∈ s.l, ok x) := by
  intro cs hlen hc
  obtain ⟨v, rfl⟩ := one_cell hlen
  have h0 := hc 0 (by simp)
  simp only [List.getD_cons_zero] at h0
  rcases h0.slice_inv hu hl with rfl | ⟨len, c, rfl, hm, hsz, hall⟩
  · exact ⟨Sl.none, rfl, by simp [Sl.none], by simp [Sl.none]⟩
  · have : ∀ (len : Nat) (c : List Value), c.length = len * l.length → (∀ i j, i < len → j < l.length → TLeaf P (l.getD j 0) (c.getD (i * l.length + j) junk)) → ∃ xs : List α, xs.length = len ∧ c = xs.flatMap enc ∧ ∀ x ∈ xs, ok x := by
      intro len
      induction len with
      | zero => intro c h1 _; exact ⟨[], rfl, List.length_eq_zero_iff.1 (by simpa using h1), by simp⟩
      | succ len ih =>
        intro c h1 h2
        rw [Nat.add_mul, Nat.one_mul] at h1
        obtain ⟨x, hx, ox⟩ := h (c.take l.length) (by simp; omega) fun j hj => by
          have := h2 0 j (by omega) hj
          simp only [Nat.zero_mul, Nat.zero_add] at this
          simpa [List.getD_eq_getElem?_getD, List.getElem?_take, hj] using this
        obtain ⟨xs, g1, g2, g3⟩ := ih (c.drop l.length) (by simp; omega) fun i j hi hj => by
          have := h2 (i + 1) j (by omega) hj
          rw [Nat.add_mul, Nat.one_mul] at this
          have e1 : i * l.length + l.length + j = l.length + (i * l.length + j) := by omega
          rw [e1] at this
          simpa [List.getD_eq_getElem?_getD, List.getElem?_drop] using this
        exact ⟨x :: xs, by simp [g1], by rw [List.flatMap_cons, ← hx, ← g2, List.take_append_drop], fun y hy => by rcases List.mem_cons.1 hy with rfl | hy; exact ox; exact g3 y hy⟩
    obtain ⟨xs, g1, g2, g3⟩ := this len c.toList (by simpa using hsz) fun i j hi hj => by
      have := hall i j hi hj
      simpa [Array.getD_eq_getD_getElem?, List.getD_eq_getElem?_getD] using this
    refine ⟨Sl.full xs, ?_, by rw [full_l', g1]; exact hm, by rw [full_l']; exact g3⟩
    simp only [slV, Sl.full, cond_false, flatV, ← g2, g1]
theorem Decs.slice {l : List TypeId} {enc : α → List Value} {ok : α → Prop} (hu : P.underlying t = some (.slice e)) (hl : flat P 8 e = some l) (hn : ∀ x, (enc x).length = l.length) (h : Decs P l enc ok) :
    Decs P [t] (fun s : Sl α => [slV enc s]) (fun s => s.l.length ≤ maxLen ∧ ∀ x ∈ s.l, ok x) :=
  (Decs.sliceL hu hl hn h).to id (fun _ => rfl) fun _ h => ⟨h.1.1, h.2⟩
/-- an argument that is a row of cells -/
theorem TArg.decs {ts : List TypeId} {enc : α → List Value} {ok : α → Prop} {v : Value} (ha : TArg P t v) (hw : (match P.underlying t with | some (.array _ _) | some (.struct _) => true | _ => false) = true) (hf : flat P 8 t = some ts) (h : Decs P ts enc ok) :
    ∃ x, v = .agg (enc x).toArray ∧ ok x := by
  have : ∃ cs : Array Value, v = .agg cs ∧ cs.size = ts.length ∧ ∀ i, i < ts.length → TLeaf P (ts.getD i 0) (cs.getD i junk) := by
    unfold TArg at ha
    split at ha
    · obtain ⟨l2, cs, h1, h2, h3, h4⟩ := ha; rw [hf] at h1; cases h1; exact ⟨cs, h2, h3, h4⟩
    · obtain ⟨l2, cs, h1, h2, h3, h4⟩ := ha; rw [hf] at h1; cases h1; exact ⟨cs, h2, h3, h4⟩
    · split at hw <;> simp_all
  obtain ⟨cs, rfl, h1, h2⟩ := this
  obtain ⟨x, hx, ox⟩ := h cs.toList (by simpa using h1) fun i hi => by
    have := h2 i hi
    simpa [Array.getD_eq_getD_getElem?, List.getD_eq_getElem?_getD] using this
  exact ⟨x, by rw [← hx], ox⟩
/-- an argument of one cell -/
theorem TArg.dec {f : α → Value} {ok : α → Prop} {v : Value} (ha : TArg P t v) (hw : (match P.underlying t with | some (.array _ _) | some (.struct _) => true | _ => false) = false) (h : Decs P [t] (fun x => [f x]) ok) : ∃ x, v = f x ∧ ok x := by
  have hl : TLeaf P t v := by
    unfold TArg at ha
    split at ha
    · simp_all
    · simp_all
    · exact ha
  obtain ⟨x, hx, ox⟩ := h [v] rfl fun i hi => by
    have : i = 0 := by simpa using hi
    subst this; exact hl
  simp only [List.cons.injEq, and_true] at hx
  exact ⟨x, hx, ox⟩
end
end Go.Am

set_option linter.unusedVariables false
set_option linter.unusedSimpArgs false
/- Loops, by what they hold at their heads. -/
namespace Go.Am
open Go
theorem AWP.loopI {P : Program} {h0 : AH} {c : Code} {Q : Exit → Array Value → AH → Prop} {a : Array Value} {h : AH} {ι : Type} (M : ι → Nat) (Fr : ι → List Value) (Hp : ι → AH) (ok : ι → Prop) (i0 : ι) (hok : ok i0)
    (he : Eases P h0 a h (Fr i0).toArray (Hp i0))
    (round : ∀ i, ok i → ay P h0 c (thenA (fun a1 h1 => ∃ j, M j < M i ∧ ok j ∧ Eases P h0 a1 h1 (Fr j).toArray (Hp j)) Q) (Fr i).toArray (Hp i)) : AWP P h0 (.loop c) Q a h := by
  refine AWP.ease he (AWP.loopE (fun k a h => ∃ i, k = M i ∧ a = (Fr i).toArray ∧ h = Hp i ∧ ok i) (n := M i0) ⟨i0, rfl, rfl, rfl, hok⟩ ?_)
  rintro n a h ⟨i, rfl, rfl, rfl, hi⟩
  refine AWP.mono (ay_sound _ _ _ _ (round i hi)) fun e a1 h1 hq => ?_
  cases e with
  | normal =>
    obtain ⟨j, h2, h3, h4⟩ := hq
    exact ⟨M j, _, _, h2, h4, j, rfl, rfl, rfl, h3⟩
  | _ => exact hq
theorem Keeps.ease {P : Program} {h0 h : AH} {l l1 : List Value} (hle : h0.length ≤ h.length) (hobj : ∀ b o, h[b]? = some o → o.alive = true → (b < h0.length ∧ h0[b]? = some o) ∨ ORen id h.length o o) (hv : Keeps h.length l l1) : Eases P h0 l.toArray h l1.toArray h := by
  have := Eases.tail (P := P) (x := []) hle hobj hv
  simpa using this
/-- nothing new but what is forgotten of the frame -/
theorem Keeps.ease0 {P : Program} {h0 : AH} {l l1 : List Value} (hv : Keeps h0.length l l1) : Eases P h0 l.toArray h0 l1.toArray h0 :=
  hv.ease (Nat.le_refl _) fun b o hb _ => .inl ⟨(List.getElem?_eq_some_iff.1 hb).1, hb⟩
/-- blocks behind are dropped -/
theorem Keeps.ease1 {P : Program} {h0 x : AH} {l l1 : List Value} (hv : Keeps h0.length l l1) : Eases P h0 l.toArray (h0 ++ x) l1.toArray h0 :=
  Eases.tail (Nat.le_refl _) (fun b o hb _ => .inl ⟨(List.getElem?_eq_some_iff.1 hb).1, hb⟩) hv
end Go.Am

set_option linter.unusedVariables false
set_option linter.unusedSimpArgs false
/- Equality of booleans and strings. -/
namespace Go.Am
open Go
section
variable {P : Program} {t : TypeId} {x y : Operand} {d : TypeDesc}
theorem pure_underlying (hu : P.underlying t = some d) : pureRun P (Go.underlying t) = some d := by
  unfold Go.underlying
  show pureRun P (match P.underlying t with | some d => pure d | none => stuck "no such type") = _
  rw [hu]; rfl
theorem abin_str {op : BinOp} {a b : ByteArray} {r : Value} (h : (do eqGuard op t x y (.string a) (.string b); binOp op t (.string a) (.string b)) = (pure r : Sem Value)) (hr : plainB r = true) (hop : op ≠ .shl ∧ op ≠ .shr) : abinOp P op t x y (.string a) (.string b) = some r := by
  have : abinOp P op t x y (.string a) (.string b) = plainOut (pureRun P (do eqGuard op t x y (.string a) (.string b); binOp op t (.string a) (.string b))) := by
    unfold abinOp
    cases op <;> simp [plainB, plain1]
  rw [this, h]
  show (if plainB r = true then some r else none) = some r
  rw [if_pos hr]
theorem abin_neqS (a b : ByteArray) : abinOp P .neq t x y (.string a) (.string b) = some (.bool (!(a.toList == b.toList))) := abin_str rfl rfl (by decide)
attribute [go_sem] abin_neqS
end
end Go.Am

set_option linter.unusedVariables false
set_option linter.unusedSimpArgs false
/- Equality of rows of numbers. -/
namespace Go.Am
open Go
section
variable {P : Program} {t e : TypeId} {n : Nat} {k : IntKind}
theorem pure_info {i : TypeInfo} (hi : P.info? t = some i) : pureRun P (typeInfo t) = some i := by
  unfold typeInfo
  show pureRun P (match P.info? t with | some d => pure d | none => stuck _) = _
  rw [hi]; rfl
theorem pure_size {i : TypeInfo} (hi : P.info? t = some i) : pureRun P (sizeOf t) = some i.size := by
  unfold sizeOf
  rw [pureRun_bind _ _ (pure_info hi)]; rfl
theorem pure_part {v : Value} {cs : Array Value} {off : Nat} (he : P.underlying e = some (.int k)) (h : cs[off]? = some v) : pureRun P (part e cs off) = some v := by
  have : pureRun P (isAgg e) = some false := by
    unfold isAgg
    rw [pureRun_bind _ _ (pure_underlying he)]; rfl
  unfold part
  rw [pureRun_bind _ _ this]
  simp only [Bool.false_eq_true, if_false, h]; rfl
theorem pure_equalIn_int (d : Nat) (he : P.underlying e = some (.int k)) (a b : Int) : pureRun P (Op.equalIn (d + 1) e (.int k a) (.int k b)) = some (a == b) := by
  unfold Op.equalIn
  rw [pureRun_bind _ _ (pure_underlying he)]
  simp only [if_true]
  rfl
theorem all_range_int : ∀ (xs ys : List Int), xs.length = ys.length → ((List.range xs.length).all fun i => xs.getD i 0 == ys.getD i 0) = (xs == ys)
  | [], [], _ => rfl
  | x :: xs, y :: ys, h => by
    have ih := all_range_int xs ys (by simpa using h)
    rw [List.length_cons, List.range_succ_eq_map, List.all_cons, List.all_map]
    simp only [List.getD_cons_zero, Function.comp_def, List.getD_cons_succ, ih]
    simp [List.cons_beq_cons]
  | [], _ :: _, h => by simp at h
  | _ :: _, [], h => by simp at h
theorem pure_equalIn_ints (d : Nat) {i0 : TypeInfo} (hu : P.underlying t = some (.array n e)) (he : P.underlying e = some (.int k)) (hi : P.info? e = some i0) (hs : i0.size = 1) (xs ys : List Int) (hx : xs.length = n) (hy : ys.length = n) :
    pureRun P (Op.equalIn (d + 2) t (.agg (xs.map (Value.int k)).toArray) (.agg (ys.map (Value.int k)).toArray)) = some (xs == ys) := by
  rw [← all_range_int xs ys (hx.trans hy.symm), hx, List.range_eq_range', Op.equalIn]
  rw [pureRun_bind _ _ (pure_underlying hu)]
  simp only
  rw [pureRun_bind _ _ (pure_size hi), hs]
  simp only [Std.Legacy.Range.forIn_eq_forIn_range', Std.Legacy.Range.size, Nat.sub_zero, Nat.add_sub_cancel, Nat.div_one]
  have hl : ∀ i ∈ List.range' 0 n 1, i < n := fun i hi => by simpa using (List.mem_range'_1.1 hi).2
  generalize List.range' 0 n 1 = l at hl ⊢
  induction l with
  | nil => rfl
  | cons i l ih =>
    have hi : i < n := hl i (by simp)
    have px : pureRun P (part e (xs.map (Value.int k)).toArray (i * 1)) = some (.int k (xs.getD i 0)) :=
      pure_part he (by simp [List.getD, List.getElem?_eq_getElem (show i < xs.length by omega)])
    have py : pureRun P (part e (ys.map (Value.int k)).toArray (i * 1)) = some (.int k (ys.getD i 0)) :=
      pure_part he (by simp [List.getD, List.getElem?_eq_getElem (show i < ys.length by omega)])
    have pe : pureRun P (Op.equalIn (d + 1) e (.int k (xs.getD i 0)) (.int k (ys.getD i 0))) = some (xs.getD i 0 == ys.getD i 0) := pure_equalIn_int d he _ _
    rw [List.forIn_cons]
    simp only [List.all_cons, bind_assoc]
    rw [pureRun_bind _ _ px]
    rw [pureRun_bind _ _ py]
    rw [pureRun_bind _ _ pe]
    cases hb : (xs.getD i 0 == ys.getD i 0)
    · rfl
    · simp only [Bool.not_true, Bool.false_eq_true, if_false, Bool.true_and, pure_bind]
      exact ih fun j hj => hl j (by simp [hj])
/-- rows of one kind of number -/
theorem abin_eqlI {x y : Operand} {i0 : TypeInfo} (hu : P.underlying t = some (.array n e)) (he : P.underlying e = some (.int k)) (hi : P.info? e = some i0) (hs : i0.size = 1) (hg : P.eqGuardType P.depth t = false) (xs ys : List Int) (hx : xs.length = n) (hy : ys.length = n) :
    abinOp P .eql t x y (.agg (xs.map (Value.int k)).toArray) (.agg (ys.map (Value.int k)).toArray) = some (.bool (xs == ys)) ∧ abinOp P .neq t x y (.agg (xs.map (Value.int k)).toArray) (.agg (ys.map (Value.int k)).toArray) = some (.bool (!(xs == ys))) := by
  have hp : ∀ l : List Int, plainB (.agg (l.map (Value.int k)).toArray) = true := fun l => by
    show ((l.map (Value.int k)).toArray).all plain1 = true
    simp [plain1]
  have hE : pureRun P (Op.equal t (.agg (xs.map (Value.int k)).toArray) (.agg (ys.map (Value.int k)).toArray)) = some (xs == ys) :=
    pure_equalIn_ints (P := P) 9998 hu he hi hs xs ys hx hy
  have hG : ∀ op, pureRun P (eqGuard op t x y (.agg (xs.map (Value.int k)).toArray) (.agg (ys.map (Value.int k)).toArray)) = some () := fun op => by
    have key : pureRun P (if (!P.eqGuardType P.depth t) = true then pure () else (do
        if (← Op.eqGuardIn Op.maxDepth t (.agg (xs.map (Value.int k)).toArray) (.agg (ys.map (Value.int k)).toArray)) = true then unsupported (.noEntry "binop/eql: two nil values of an interface type with methods, in a part of a struct or an array") else pure ())) = some () := by
      rw [hg]; rfl
    cases op <;> first | rfl | exact key
  constructor
  · have e1 : abinOp P .eql t x y (.agg (xs.map (Value.int k)).toArray) (.agg (ys.map (Value.int k)).toArray) = plainOut (pureRun P (do eqGuard .eql t x y (.agg (xs.map (Value.int k)).toArray) (.agg (ys.map (Value.int k)).toArray); binOp .eql t (.agg (xs.map (Value.int k)).toArray) (.agg (ys.map (Value.int k)).toArray))) := by
      unfold abinOp
      simp only [hp, Bool.and_self, if_true]
    rw [e1, pureRun_bind _ _ (hG _)]
    show plainOut (pureRun P (Op.equal t _ _ >>= fun r => pure (Value.bool r))) = _
    rw [pureRun_bind _ _ hE]; rfl
  · have e1 : abinOp P .neq t x y (.agg (xs.map (Value.int k)).toArray) (.agg (ys.map (Value.int k)).toArray) = plainOut (pureRun P (do eqGuard .neq t x y (.agg (xs.map (Value.int k)).toArray) (.agg (ys.map (Value.int k)).toArray); binOp .neq t (.agg (xs.map (Value.int k)).toArray) (.agg (ys.map (Value.int k)).toArray))) := by
      unfold abinOp
      simp only [hp, Bool.and_self, if_true]
    rw [e1, pureRun_bind _ _ (hG _)]
    show plainOut (pureRun P (Op.equal t _ _ >>= fun r => pure (Value.bool !r))) = _
    rw [pureRun_bind _ _ hE]; rfl
end
/-! ### what stays of a frame where blocks move -/
inductive KeepsS (σ : Nat → Nat) (L : Nat) : List Value → List Value → Prop
  | nil : KeepsS σ L [] []
  | junk (v : Value) {l l1 : List Value} (r : KeepsS σ L l l1) : KeepsS σ L (v :: l) (Am.junk :: l1)
  | keep {v v1 : Value} {l l1 : List Value} (h : VRen σ L v1 v) (r : KeepsS σ L l l1) : KeepsS σ L (v :: l) (v1 :: l1)
theorem KeepsS.length {σ : Nat → Nat} {L : Nat} {l l1 : List Value} (h : KeepsS σ L l l1) : l1.length = l.length := by induction h <;> simp_all
theorem KeepsS.get {σ : Nat → Nat} {L : Nat} {l l1 : List Value} (h : KeepsS σ L l l1) : ∀ i : Nat, VRen σ L (l1.getD i Am.junk) (l.getD i Am.junk) := by
  induction h with
  | nil => intro i; simp; exact .junk _
  | junk v _ ih => intro i; cases i with
    | zero => simpa using VRen.junk v
    | succ i => simpa using ih i
  | keep h _ ih => intro i; cases i with
    | zero => simpa using h
    | succ i => simpa using ih i
end Go.Am

set_option linter.unusedVariables false
set_option linter.unusedSimpArgs false
/- Addresses, words, bytes, numbers axs cells. -/
namespace Go.Am
open Go
abbrev Addr20 := Vector UInt8 20
abbrev Word4 := Vector UInt64 4
def encAddr (a : Addr20) : List Value := a.toList.map fun b => .int .u8 b.toNat
def encWord (w : Word4) : List Value := w.toList.map fun b => .int .u64 b.toNat
def encU8 (b : UInt8) : List Value := [.int .u8 b.toNat]
theorem length_encAddr (a : Addr20) : (encAddr a).length = 20 := by simp [encAddr]
theorem length_encWord (a : Word4) : (encWord a).length = 4 := by simp [encWord]
theorem length_encU8 (a : UInt8) : (encU8 a).length = 1 := rfl
attribute [go_sem] length_encAddr length_encWord length_encU8
theorem tree_encAddr (a : Addr20) : ∀ v ∈ encAddr a, Tree v := by
  intro v hv; obtain ⟨_, _, rfl⟩ := List.mem_map.1 hv; exact .plain _ rfl
theorem tree_encWord (a : Word4) : ∀ v ∈ encWord a, Tree v := by
  intro v hv; obtain ⟨_, _, rfl⟩ := List.mem_map.1 hv; exact .plain _ rfl
theorem tree_encU8 (a : UInt8) : ∀ v ∈ encU8 a, Tree v := by
  intro v hv; simp only [encU8, List.mem_singleton] at hv; subst hv; exact .plain _ rfl
theorem map_inj {α : Type} {f : α → Value} (hf : ∀ x y, f x = f y → x = y) : ∀ {a b : List α}, a.map f = b.map f → a = b
  | [], [], _ => rfl
  | x :: a, y :: b, h => by simp only [List.map_cons, List.cons.injEq] at h; rw [hf _ _ h.1, map_inj hf h.2]
  | [], _ :: _, h => by simp at h
  | _ :: _, [], h => by simp at h
theorem encAddr_inj {a b : Addr20} (h : encAddr a = encAddr b) : a = b := by
  have := map_inj (fun x y e => by simp only [Value.int.injEq, true_and] at e; exact UInt8.toNat_inj.1 (by omega)) h
  exact Vector.toList_inj.1 this
theorem encWord_inj {a b : Word4} (h : encWord a = encWord b) : a = b := by
  have := map_inj (fun x y e => by simp only [Value.int.injEq, true_and] at e; exact UInt64.toNat_inj.1 (by omega)) h
  exact Vector.toList_inj.1 this
/-- a row of numbers: its length, their kind -/
def rowK (P : Program) (t : TypeId) : Option (Nat × IntKind) :=
  match P.underlying t with
  | some (.array n e) => match P.underlying e, P.info? e with
    | some (.int k), some i => if i.size = 1 ∧ P.eqGuardType P.depth t = false then some (n, k) else none
    | _, _ => none
  | _ => none
theorem rowK_spec {P : Program} {t : TypeId} {n : Nat} {k : IntKind} (h : rowK P t = some (n, k)) : ∃ e i, P.underlying t = some (.array n e) ∧ P.underlying e = some (.int k) ∧ P.info? e = some i ∧ i.size = 1 ∧ P.eqGuardType P.depth t = false := by
  unfold rowK at h
  split at h
  · rename_i n' e hu
    split at h
    · rename_i k' i hk hi
      split at h
      · rename_i hc
        cases h
        exact ⟨e, i, hu, hk, hi, hc.1, hc.2⟩
      · cases h
    · cases h
  · cases h
section
variable {P : Program} {t : TypeId} {x y : Operand}
theorem abin_row {n : Nat} {k : IntKind} (h : rowK P t = some (n, k)) (xs ys : List Int) (hx : xs.length = n) (hy : ys.length = n) :
    abinOp P .eql t x y (.agg (xs.map (Value.int k)).toArray) (.agg (ys.map (Value.int k)).toArray) = some (.bool (xs == ys)) ∧ abinOp P .neq t x y (.agg (xs.map (Value.int k)).toArray) (.agg (ys.map (Value.int k)).toArray) = some (.bool (!(xs == ys))) := by
  obtain ⟨e, i, h1, h2, h3, h4, h5⟩ := rowK_spec h
  exact abin_eqlI h1 h2 h3 h4 h5 xs ys hx hy
theorem encAddr_map (a : Addr20) : encAddr a = (a.toList.map fun b => (b.toNat : Int)).map (Value.int .u8) := by simp [encAddr]
theorem encWord_map (a : Word4) : encWord a = (a.toList.map fun b => (b.toNat : Int)).map (Value.int .u64) := by simp [encWord]
theorem addr_beq (a b : Addr20) : ((a.toList.map fun b => (b.toNat : Int)) == (b.toList.map fun b => (b.toNat : Int))) = decide (a = b) := by
  rw [Bool.eq_iff_iff, beq_iff_eq, decide_eq_true_iff]
  constructor
  · intro h
    exact encAddr_inj (by rw [encAddr_map, encAddr_map, h])
  · intro h; rw [h]
theorem word_beq (a b : Word4) : ((a.toList.map fun b => (b.toNat : Int)) == (b.toList.map fun b => (b.toNat : Int))) = decide (a = b) := by
  rw [Bool.eq_iff_iff, beq_iff_eq, decide_eq_true_iff]
  constructor
  · intro h
    exact encWord_inj (by rw [encWord_map, encWord_map, h])
  · intro h; rw [h]
theorem abin_eqlAddr (h : rowK P t = some (20, .u8)) (a b : Addr20) : abinOp P .eql t x y (.agg (encAddr a).toArray) (.agg (encAddr b).toArray) = some (.bool (decide (a = b))) := by
  rw [encAddr_map, encAddr_map, (abin_row h _ _ (by simp) (by simp)).1, addr_beq]
theorem abin_neqAddr (h : rowK P t = some (20, .u8)) (a b : Addr20) : abinOp P .neq t x y (.agg (encAddr a).toArray) (.agg (encAddr b).toArray) = some (.bool (!decide (a = b))) := by
  rw [encAddr_map, encAddr_map, (abin_row h _ _ (by simp) (by simp)).2, addr_beq]
theorem abin_eqlWord (h : rowK P t = some (4, .u64)) (a b : Word4) : abinOp P .eql t x y (.agg (encWord a).toArray) (.agg (encWord b).toArray) = some (.bool (decide (a = b))) := by
  rw [encWord_map, encWord_map, (abin_row h _ _ (by simp) (by simp)).1, word_beq]
theorem abin_neqWord (h : rowK P t = some (4, .u64)) (a b : Word4) : abinOp P .neq t x y (.agg (encWord a).toArray) (.agg (encWord b).toArray) = some (.bool (!decide (a = b))) := by
  rw [encWord_map, encWord_map, (abin_row h _ _ (by simp) (by simp)).2, word_beq]
end
end Go.Am

set_option linter.unusedVariables false
set_option linter.unusedSimpArgs false
/- A slice that grows in a loop; one new block that stays. -/
namespace Go.Am
open Go
theorem Keeps.easeT {P : Program} {h0 : AH} {o : AObj} {l l1 : List Value} (ht : ORen id (h0.length + 1) o o) (hv : Keeps (h0.length + 1) l l1) : Eases P h0 l.toArray (h0 ++ [o]) l1.toArray (h0 ++ [o]) := by
  have := Eases.drop (P := P) (t := [o]) (x := []) (by intro o' ho; rw [List.mem_singleton] at ho; subst ho; exact ht) hv
  simpa using this
attribute [go_sem] blit_list Array.size_append Array.size_replicate
end Go.Am

set_option linter.unusedVariables false
set_option linter.unusedSimpArgs false
/- Words: reading, writing. -/
namespace Go.Am
open Go
/-- a byte in its place -/
def byteAt (b : UInt8) (k : Nat) : UInt64 := UInt64.ofNat (b.toNat * 2 ^ (8 * k))
/-- the byte that comes to place i, from the right -/
def byteR (bs : List UInt8) (i : Nat) : UInt8 := bs.getD (bs.length - 1 - i) 0
def zeroW : Word4 := #v[0, 0, 0, 0]
/-- the first places from the right -/
def rd (bs : List UInt8) : Nat → Word4
  | 0 => zeroW
  | i + 1 => let w := rd bs i; if h : i / 8 < 4 then w.set (i / 8) (w[i / 8] ||| byteAt (byteR bs i) (i % 8)) else w
/-- numbers by their bytes -/
def le (f : Nat → Nat) : Nat → Nat
  | 0 => 0
  | n + 1 => le f n + f n * 2 ^ (8 * n)
theorem encWord_get (w : Word4) {k : Nat} (hk : k < 4) : (encWord w)[k]? = some (.int .u64 (w[k].toNat : Nat)) := by
  simp [encWord, List.getElem?_map, hk]
theorem encWord_set (w : Word4) {k : Nat} (hk : k < 4) (x : UInt64) : (encWord w).set k (.int .u64 (x.toNat : Nat)) = encWord (w.set k x) := by
  unfold encWord
  rw [Vector.toList_set, List.map_set]
theorem encWord_plain (w : Word4) : plainB (.agg (encWord w).toArray) = true := by
  show ((encWord w).toArray).all plain1 = true
  simp [encWord, plain1]
theorem zeroW_enc : (#[.int .u64 0, .int .u64 0, .int .u64 0, .int .u64 0] : Array Value) = (encWord zeroW).toArray := rfl
theorem ORen.plainCells {σ : Nat → Nat} {L es : Nat} {rw : Bool} {l : List Value} (h : ∀ v ∈ l, Tree v) : ORen σ L (.cells l.toArray es rw) (.cells l.toArray es rw) := by
  refine ⟨_, rfl, rfl, fun i => Tree.ren ?_⟩
  by_cases hi : i < l.length
  · have : l.toArray.getD i Am.junk = l[i] := by simp [Array.getD, hi]
    rw [this]; exact h _ (List.getElem_mem hi)
  · rw [getD_ge i (by simpa using hi)]; exact .junk
/-- new blocks that stay -/
theorem Keeps.easeL {P : Program} {h0 t : AH} {l l1 : List Value} (ht : ∀ o ∈ t, ORen id (h0.length + t.length) o o) (hv : Keeps (h0.length + t.length) l l1) : Eases P h0 l.toArray (h0 ++ t) l1.toArray (h0 ++ t) := by
  have := Eases.drop (P := P) (t := t) (x := []) ht hv
  simpa using this
section
variable {P : Program} {t u : TypeId} {x y : Operand}
end
end Go.Am

set_option linter.unusedVariables false
set_option linter.unusedSimpArgs false
/- Words: sums and differences. -/
namespace Go.Am
open Go
/-- what is borrowed, what is carried -/
def bor (x y c : UInt64) : UInt64 := if x.toNat < y.toNat + c.toNat then 1 else 0
def car (x y c : UInt64) : UInt64 := if 2 ^ 64 ≤ x.toNat + y.toNat + c.toNat then 1 else 0
theorem bor_le (x y c : UInt64) : (bor x y c).toNat ≤ 1 := by unfold bor; split <;> decide
theorem car_le (x y c : UInt64) : (car x y c).toNat ≤ 1 := by unfold car; split <;> decide
theorem sub_step (x y c : UInt64) (hc : c.toNat ≤ 1) : (((x - y - c).toNat : Nat) : Int) = x.toNat - y.toNat - c.toNat + 2 ^ 64 * (bor x y c).toNat := by
  have h1 := x.toNat_lt; have h2 := y.toNat_lt
  rw [UInt64.toNat_sub, UInt64.toNat_sub]
  unfold bor
  split
  · simp only [UInt64.toNat_one]; omega
  · simp only [UInt64.toNat_zero]; omega
theorem add_step (x y c : UInt64) (hc : c.toNat ≤ 1) : (((x + y + c).toNat : Nat) : Int) = x.toNat + y.toNat + c.toNat - 2 ^ 64 * (car x y c).toNat := by
  have h1 := x.toNat_lt; have h2 := y.toNat_lt
  rw [UInt64.toNat_add, UInt64.toNat_add]
  unfold car
  split
  · simp only [UInt64.toNat_one]; omega
  · simp only [UInt64.toNat_zero]; omega
def sb (a b : Word4) : Nat → Word4 × UInt64
  | 0 => (zeroW, 0)
  | i + 1 => if h : i < 4 then ((sb a b i).1.set i (a[i] - b[i] - (sb a b i).2), bor a[i] b[i] (sb a b i).2) else sb a b i
def ad (a b : Word4) : Nat → Word4 × UInt64
  | 0 => (zeroW, 0)
  | i + 1 => if h : i < 4 then ((ad a b i).1.set i (a[i] + b[i] + (ad a b i).2), car a[i] b[i] (ad a b i).2) else ad a b i
theorem sb_le (a b : Word4) : ∀ i, (sb a b i).2.toNat ≤ 1
  | 0 => by simp [sb]
  | i + 1 => by unfold sb; split; exact bor_le _ _ _; exact sb_le a b i
theorem ad_le (a b : Word4) : ∀ i, (ad a b i).2.toNat ≤ 1
  | 0 => by simp [ad]
  | i + 1 => by unfold ad; split; exact car_le _ _ _; exact ad_le a b i
theorem sb_succ (a b : Word4) {i : Nat} (h : i < 4) : sb a b (i + 1) = ((sb a b i).1.set i (a[i] - b[i] - (sb a b i).2), bor a[i] b[i] (sb a b i).2) := by
  rw [sb, dif_pos h]
theorem ad_succ (a b : Word4) {i : Nat} (h : i < 4) : ad a b (i + 1) = ((ad a b i).1.set i (a[i] + b[i] + (ad a b i).2), car a[i] b[i] (ad a b i).2) := by
  rw [ad, dif_pos h]
/-- what a word is worth -/
def valW (w : Word4) : Nat := w[0].toNat + w[1].toNat * 2 ^ 64 + w[2].toNat * 2 ^ 128 + w[3].toNat * 2 ^ 192
theorem valW_lt (w : Word4) : valW w < 2 ^ 256 := by
  have := w[0].toNat_lt; have := w[1].toNat_lt; have := w[2].toNat_lt; have := w[3].toNat_lt
  unfold valW; omega
theorem valW_inj {a b : Word4} (h : valW a = valW b) : a = b := by
  have := a[0].toNat_lt; have := a[1].toNat_lt; have := a[2].toNat_lt; have := a[3].toNat_lt
  have := b[0].toNat_lt; have := b[1].toNat_lt; have := b[2].toNat_lt; have := b[3].toNat_lt
  unfold valW at h
  apply Vector.ext
  intro i hi
  apply UInt64.toNat_inj.1
  have : i = 0 ∨ i = 1 ∨ i = 2 ∨ i = 3 := by omega
  rcases this with rfl | rfl | rfl | rfl <;> omega
theorem sb_0 (a b : Word4) : sb a b 0 = (zeroW, 0) := rfl
theorem ad_0 (a b : Word4) : ad a b 0 = (zeroW, 0) := rfl
attribute [irreducible] sb ad
theorem sb_self (a b : Word4) {i : Nat} (h : i < 4) : (sb a b (i + 1)).1[i] = a[i] - b[i] - (sb a b i).2 := by
  have e := congrArg Prod.fst (sb_succ a b h)
  simp only at e
  simp only [e, Vector.getElem_set_self]
theorem sb_other (a b : Word4) {i j : Nat} (h : i < 4) (hj : j < 4) (hne : i ≠ j) : (sb a b (i + 1)).1[j] = (sb a b i).1[j] := by
  have e := congrArg Prod.fst (sb_succ a b h)
  simp only at e
  simp only [e, Vector.getElem_set_ne _ _ hne]
theorem sb_snd (a b : Word4) {i : Nat} (h : i < 4) : (sb a b (i + 1)).2 = bor a[i] b[i] (sb a b i).2 := congrArg Prod.snd (sb_succ a b h)
theorem sb_val (a b : Word4) : ((valW (sb a b 4).1 : Nat) : Int) = valW a - valW b + 2 ^ 256 * (sb a b 4).2.toNat := by
  have l0 := sb_le a b 0; have l1 := sb_le a b 1; have l2 := sb_le a b 2; have l3 := sb_le a b 3
  have e0 := sub_step a[0] b[0] (sb a b 0).2 l0
  have e1 := sub_step a[1] b[1] (sb a b 1).2 l1
  have e2 := sub_step a[2] b[2] (sb a b 2).2 l2
  have e3 := sub_step a[3] b[3] (sb a b 3).2 l3
  have c0 : (sb a b 0).2.toNat = 0 := by rw [sb_0]; rfl
  have c1 : (sb a b 1).2 = bor a[0] b[0] (sb a b 0).2 := sb_snd a b (i := 0) (by decide)
  have c2 : (sb a b 2).2 = bor a[1] b[1] (sb a b 1).2 := sb_snd a b (i := 1) (by decide)
  have c3 : (sb a b 3).2 = bor a[2] b[2] (sb a b 2).2 := sb_snd a b (i := 2) (by decide)
  have c4 : (sb a b 4).2 = bor a[3] b[3] (sb a b 3).2 := sb_snd a b (i := 3) (by decide)
  have w0 : (sb a b 4).1[0] = a[0] - b[0] - (sb a b 0).2 := (sb_other a b (i := 3) (j := 0) (by decide) (by decide) (by decide)).trans ((sb_other a b (i := 2) (j := 0) (by decide) (by decide) (by decide)).trans ((sb_other a b (i := 1) (j := 0) (by decide) (by decide) (by decide)).trans (sb_self a b (i := 0) (by decide))))
  have w1 : (sb a b 4).1[1] = a[1] - b[1] - (sb a b 1).2 := (sb_other a b (i := 3) (j := 1) (by decide) (by decide) (by decide)).trans ((sb_other a b (i := 2) (j := 1) (by decide) (by decide) (by decide)).trans (sb_self a b (i := 1) (by decide)))
  have w2 : (sb a b 4).1[2] = a[2] - b[2] - (sb a b 2).2 := (sb_other a b (i := 3) (j := 2) (by decide) (by decide) (by decide)).trans (sb_self a b (i := 2) (by decide))
  have w3 : (sb a b 4).1[3] = a[3] - b[3] - (sb a b 3).2 := sb_self a b (i := 3) (by decide)
  rw [← c1] at e0; rw [← c2] at e1; rw [← c3] at e2; rw [← c4] at e3
  unfold valW
  rw [w0, w1, w2, w3]
  omega
theorem sb_borrow (a b : Word4) : ((sb a b 4).2.toNat = 0) ↔ valW b ≤ valW a := by
  have h1 := sb_val a b
  have b1 := sb_le a b 4
  have v1 := valW_lt a; have v2 := valW_lt b; have v3 := valW_lt (sb a b 4).1
  omega
theorem acarry_sub (x y c : UInt64) (hc : c.toNat ≤ 1) : acarry false (.int .u64 ((x.toNat : Nat) : Int)) (.int .u64 ((y.toNat : Nat) : Int)) (.int .u64 ((c.toNat : Nat) : Int)) = some (.tuple #[.int .u64 (((x - y - c).toNat : Nat) : Int), .int .u64 (((bor x y c).toNat : Nat) : Int)]) := by
  have e := sub_step x y c hc
  have h1 := x.toNat_lt; have h2 := y.toNat_lt; have h3 := (x - y - c).toNat_lt
  have hb : (bor x y c).toNat = if x.toNat < y.toNat + c.toNat then 1 else 0 := by unfold bor; split <;> rfl
  simp only [acarry, Int.toNat_natCast, hc, if_true, Bool.false_eq_true, if_false]
  have e1 : (x.toNat + 2 ^ 64 - y.toNat - c.toNat) % 2 ^ 64 = (x - y - c).toNat := by
    rw [hb] at e
    split at e <;> omega
  rw [e1, hb]
  rfl
section
variable {P : Program} {h : AH}
theorem acall_sub64 {F : FuncId} {x y c : Value} (hb : hasBody P F = false) (h1 : isName P F "math/bits.Add64" = false) (h2 : isName P F "math/bits.Sub64" = true) : acall P h (.func (.func F) #[] #[]) #[x, y, c] = aval h (acarry false x y c) := by
  simp [acall, hb, aextern, h1, h2]
theorem acall_add64 {F : FuncId} {x y c : Value} (hb : hasBody P F = false) (h1 : isName P F "math/bits.Add64" = true) : acall P h (.func (.func F) #[] #[]) #[x, y, c] = aval h (acarry true x y c) := by
  simp [acall, hb, aextern, h1]
end
end Go.Am

set_option linter.unusedVariables false
set_option linter.unusedSimpArgs false
/- Bytes: axs strings; written. -/
namespace Go.Am
open Go
theorem flat_u8 (l : List UInt8) : flatV encU8 l = (l.map fun b => Value.int .u8 b.toNat).toArray := by
  simp only [flatV, encU8]
  congr 1
  induction l with
  | nil => rfl
  | cons x l ih => rw [List.flatMap_cons, ih, List.map_cons]; rfl
theorem size_u8 (l : List UInt8) : (flatV encU8 l).size = l.length := by simp [flat_u8]
theorem bytesIn_u8 (l : List UInt8) : bytesIn (l.map fun b => Value.int .u8 b.toNat) = some l := by
  induction l with
  | nil => rfl
  | cons x l ih => simp [bytesIn, ih]
/-- bytes axs a string -/
theorem aconv_slV {P : Program} {h : AH} {src dst e : TypeId} {s : Sl UInt8} (hs : P.underlying src = some (.slice e)) (he : P.underlying e = some (.int .u8)) (hd : P.underlying dst = some .string) :
    aconvert P h src dst (slV encU8 s) = some (.string ⟨s.l.toArray⟩, h) := by
  unfold slV
  cases hn : s.nil with
  | true =>
    rw [s.ok hn]
    simp only [cond_true, aconvert, hs, hd, he]
    rfl
  | false =>
    simp only [cond_false]
    have : aconvert P h src dst (fz (flatV encU8 s.l) s.l.length) = if s.l.length ≤ (flatV encU8 s.l).size then (bytesIn ((flatV encU8 s.l).extract 0 s.l.length).toList).map fun l => (.string ⟨l.toArray⟩, h) else none := by
      simp only [aconvert, fz, hs, hd, he, fzN_lit]
    rw [this, if_pos (by rw [size_u8]; exact Nat.le_refl _)]
    have e1 : ((flatV encU8 s.l).extract 0 s.l.length).toList = s.l.map fun b => Value.int .u8 b.toNat := by
      rw [← size_u8 s.l, Array.extract_size, flat_u8]
    rw [e1, bytesIn_u8]
    rfl
theorem str_toList (l : List UInt8) : (⟨l.toArray⟩ : ByteArray).toList = l := by
  rw [Lib.toList_data]
end Go.Am

set_option linter.unusedVariables false
set_option linter.unusedSimpArgs false
/- Numbers of 32 bits. -/
namespace Go.Am
open Go
section
variable {P : Program} {t : TypeId} {x y : Operand}
end
end Go.Am

set_option linter.unusedVariables false
set_option linter.unusedSimpArgs false
/- A hash, axs a fold over blocks. -/
namespace Go.Am
open Go
/-- eight numbers -/
structure S8 where
  (a b c d e f g h : UInt32)
def S8.l (s : S8) : List UInt32 := [s.a, s.b, s.c, s.d, s.e, s.f, s.g, s.h]
def S8.add (s v : S8) : S8 := ⟨s.a + v.a, s.b + v.b, s.c + v.c, s.d + v.d, s.e + v.e, s.f + v.f, s.g + v.g, s.h + v.h⟩
end Go.Am

set_option linter.unusedVariables false
set_option linter.unusedSimpArgs false
/- Copying; eight numbers; a block of the caller's that is written. -/
namespace Go.Am
open Go
section
variable {P : Program} {h : AH} {t : TypeId} {s : S8} {x : UInt32}
end
section
variable {P : Program} {ops : Array Oper} {Q : Exit → Array Value → AH → Prop} {rest : List Oper} {a : Array Value} {h hh : AH} {dst : Option Tmp}
end
theorem full_l {α : Type} (l : List α) : (Sl.full l).l = l := rfl
theorem app_l {α : Type} (l : List α) : (Sl.app l).l = l := rfl
attribute [go_sem] full_l app_l
theorem at_front {h t : AH} {b : Nat} (hb : b < h.length) : (h ++ t)[b]? = h[b]? := List.getElem?_append_left hb
/-- of the frame these stay, axs values; all that is new is dropped -/
inductive KeepsF (h h1 : AH) : List Value → List Value → Prop
  | nil : KeepsF h h1 [] []
  | junk (v : Value) {l l1 : List Value} (r : KeepsF h h1 l l1) : KeepsF h h1 (v :: l) (Am.junk :: l1)
  | keep {v v1 : Value} {l l1 : List Value} (hr : Rf h h1 v v1) (ht : Tree v1) (r : KeepsF h h1 l l1) : KeepsF h h1 (v :: l) (v1 :: l1)
theorem KeepsF.spec {h h1 : AH} {l l1 : List Value} (k : KeepsF h h1 l l1) : l1.length = l.length ∧ (∀ i : Nat, Rf h h1 (l.getD i Am.junk) (l1.getD i Am.junk)) ∧ ∀ L, Keeps L l1 l1 := by
  induction k with
  | nil => exact ⟨rfl, fun i => by simp; exact .same _, fun _ => .nil⟩
  | junk v r ih => exact ⟨by simp [ih.1], fun i => by cases i with
      | zero => exact .junk _
      | succ i => simpa using ih.2.1 i, fun L => .junk _ (ih.2.2 L)⟩
  | keep hr ht r ih => exact ⟨by simp [ih.1], fun i => by cases i with
      | zero => simpa using hr
      | succ i => simpa using ih.2.1 i, fun L => .keep ht.ren (ih.2.2 L)⟩
theorem KeepsF.ease {P : Program} {h0 t : AH} {l l1 : List Value} (k : KeepsF (h0 ++ t) (dieNew h0 (h0 ++ t)) l l1) : Eases P h0 l.toArray (h0 ++ t) l1.toArray h0 := by
  obtain ⟨h1, h2, h3⟩ := k.spec
  refine Eases.trans (Eases.freeze (a1 := l1.toArray) (h1 := dieNew h0 (h0 ++ t)) ⟨by simp [dieNew], fun b o1 hb ha => ?_⟩ (by simpa using h1) fun i => ?_) (Keeps.ease1 (h3 _))
  · obtain ⟨h4, h5⟩ := dieNew_get hb ha
    exact .inl (by rw [at_front h4]; exact h5)
  · have := h2 i
    simpa [Array.getD_eq_getD_getElem?, List.getD] using this
end Go.Am

set_option linter.unusedVariables false
set_option linter.unusedSimpArgs false
/- The last blocks; bytes written in place. -/
namespace Go.Am
open Go
/-- of the frame these stay, some axs values -/
inductive FzL (h h1 : AH) : List Value → List Value → Prop
  | nil : FzL h h1 [] []
  | junk (v : Value) {l l1 : List Value} (r : FzL h h1 l l1) : FzL h h1 (v :: l) (Am.junk :: l1)
  | keep {v v1 : Value} {l l1 : List Value} (hr : Rf h h1 v v1) (r : FzL h h1 l l1) : FzL h h1 (v :: l) (v1 :: l1)
theorem FzL.spec {h h1 : AH} {l l1 : List Value} (k : FzL h h1 l l1) : l1.length = l.length ∧ (∀ i : Nat, Rf h h1 (l.getD i Am.junk) (l1.getD i Am.junk)) := by
  induction k with
  | nil => exact ⟨rfl, fun i => by simp; exact .same _⟩
  | junk v r ih => exact ⟨by simp [ih.1], fun i => by cases i with
      | zero => exact .junk _
      | succ i => simpa using ih.2 i⟩
  | keep hr r ih => exact ⟨by simp [ih.1], fun i => by cases i with
      | zero => simpa using hr
      | succ i => simpa using ih.2 i⟩
theorem FzL.ease {P : Program} {h0 h : AH} {b : Nat} {l l1 : List Value} (k : FzL h (h.set b .dead) l l1) : Eases P h0 l.toArray h l1.toArray (h.set b .dead) := by
  obtain ⟨h1, h2⟩ := k.spec
  refine Eases.freeze HFz.set (by simpa using h1) fun i => ?_
  have := h2 i
  simpa [Array.getD_eq_getD_getElem?, List.getD] using this
theorem Rf.pointer {h h1 : AH} {b o es : Nat} {c : Array Value} {rw : Bool} (hb : h[b]? = some (.cells c es rw)) (hd : h1[b]? = some .dead) : Rf h h1 (.pointer (some ⟨b, o, none⟩)) (fp c o) :=
  .ptr b o es c c rw hb hd rfl fun i _ => .same _
theorem ACalls.of_aw {P : Program} {F : FuncId} {fn : Func} {c : Code} (hf : P.funcs[F]? = some fn) (hb : fn.body = some c) {n : Nat} (hn : fn.ntmps = n) {args : List Value} {h : AH} {R : Value → AH → Prop} (inh : ∃ v h', R v h')
    (ha : AWP P h c (apost P h fn R) (args ++ List.replicate (n - args.length) undef).toArray h) : ACalls P F args.toArray h R := by
  subst hn
  refine ACalls.of_awp hf hb inh ?_
  have e : (args.toArray ++ Array.replicate (fn.ntmps - args.toArray.size) undef) = (args ++ List.replicate (fn.ntmps - args.length) undef).toArray := by
    simp
  rw [e]; exact ha
end Go.Am

set_option linter.unusedVariables false
set_option linter.unusedSimpArgs false
/- A law whose package variable is known. -/
namespace Go.Am
open Go
section
variable {P : Program} {w : World} {H : Type} {enc : TypeId × Value → H} {spare : Nat → Bool} {held : Bool}
end
end Go.Am

set_option linter.unusedVariables false
set_option linter.unusedSimpArgs false
/- strings.Builder: equations. -/
namespace Go.Am
open Go
section
variable {P : Program} {h : AH} {t u e : TypeId} {b o n len : Nat} {x s : Value} {new c : Array Value}
variable {dst : Option Tmp} {ty : TypeId} {pos : String} {after : Array Edge} {guard : Option (Nat × Bool)} {ρ : Operand → Value}
end
end Go.Am

set_option linter.unusedVariables false
set_option linter.unusedSimpArgs false
/- Strings axs lists of bytes. -/
namespace Go.Am
open Go
def bs (l : List UInt8) : ByteArray := ⟨l.toArray⟩
theorem size_bs (l : List UInt8) : (bs l).size = l.length := by simp [bs, ByteArray.size]
theorem toList_bs (l : List UInt8) : (bs l).toList = l := str_toList l
theorem data_bs (l : List UInt8) : (bs l).data = l.toArray := rfl
theorem get_bs (l : List UInt8) (i : Nat) : (bs l)[i]? = l[i]? := by
  by_cases h : i < l.length
  · rw [List.getElem?_eq_getElem h, getElem?_pos (bs l) i (by rw [size_bs]; exact h)]; rfl
  · rw [List.getElem?_eq_none (by omega), getElem?_neg (bs l) i (by rw [size_bs]; exact h)]
section
variable {P : Program} {h : AH} {t : TypeId} {x y : Operand} {l a b : List UInt8}
theorem aconv_slB {src dst e : TypeId} {s : Sl UInt8} (hs : P.underlying src = some (.slice e)) (he : P.underlying e = some (.int .u8)) (hd : P.underlying dst = some .string) :
    aconvert P h src dst (slV encU8 s) = some (.string (bs s.l), h) := aconv_slV hs he hd
end
attribute [go_sem] size_bs toList_bs
end Go.Am
namespace Go.Am
open Go
end Go.Am

set_option linter.unusedVariables false
set_option linter.unusedSimpArgs false
/- Digits read. -/
namespace Go.Am
open Go
section
variable {P : Program} {t : TypeId} {x y : Operand}
end
end Go.Am
namespace Go.Am
open Go
end Go.Am
namespace Go.Am
open Go
def gvalV (want : Bool) : Value → Option Bool
  | .bool b => some (b == want)
  | .tuple _ => some false
  | _ => none
def gvalO (want : Bool) (a : Array Value) : Option Tmp → Option Bool
  | some d => gvalV want (a.getD d junk)
  | none => none
theorem gval_some {ops : Array Oper} {a : Array Value} {dst : Option Tmp} {op : Op} {ty : TypeId} {pos : String} {after : Array Edge} {j : Nat} {want : Bool} : gval ops a ⟨dst, op, ty, pos, after, some (j, want)⟩ = gvalO want a ((ops[j]?).bind (·.dst)) := by
  unfold gval gvalO gvalV
  simp only
  cases (ops[j]?).bind (·.dst) with
  | none => rfl
  | some d => cases a.getD d junk <;> rfl
theorem gvalO_some {want : Bool} {a : Array Value} {d : Tmp} : gvalO want a (some d) = gvalV want (a.getD d junk) := rfl
theorem gvalV_bool {want b : Bool} : gvalV want (.bool b) = some (b == want) := rfl
attribute [go_sem ↓ high] gval_some
attribute [go_sem] gvalO_some gvalV_bool
end Go.Am
namespace Go.Am
open Go
end Go.Am

set_option linter.unusedVariables false
set_option linter.unusedSimpArgs false
/- Digits: the plain laws. -/
namespace Go.Am
open Go
end Go.Am
namespace Go.Am
open Go
end Go.Am

set_option linter.unusedVariables false
set_option linter.unusedSimpArgs false
/- Words by their bits; digits axs numbers. -/
namespace Go.Am
open Go
end Go.Am
namespace Go.Am
open Go
/-! numbers of digits -/
def hx (acc : Nat) (d : UInt8) : Nat := 16 * acc + d.toNat
def be (acc : Nat) (b : UInt8) : Nat := 256 * acc + b.toNat
theorem le_succ (f : Nat → Nat) : ∀ n, le f (n + 1) = f 0 + 256 * le (fun k => f (k + 1)) n
  | 0 => by simp [le]
  | n + 1 => by
    rw [le, le_succ f n, le]
    have : 2 ^ (8 * (n + 1)) = 256 * 2 ^ (8 * n) := by rw [Nat.mul_add, Nat.pow_add, Nat.mul_comm]
    rw [this, Nat.mul_add, ← Nat.add_assoc]
    congr 1
    rw [Nat.mul_left_comm]
end Go.Am
namespace Go.Am
open Go
section
variable {P : Program} {t u : TypeId} {x y : Operand}
end
end Go.Am
namespace Go.Am
open Go
end Go.Am

set_option linter.unusedVariables false
set_option linter.unusedSimpArgs false
/- Bytes compared; a block of the caller's written, and a value told. -/
namespace Go.Am
open Go
theorem find_none {p : Nat → Bool} {n : Nat} (h : (List.range n).find? p = none) {i : Nat} (hi : i < n) : p i = false := by
  have := List.find?_eq_none.1 h i (List.mem_range.2 hi)
  simpa using this
section
variable {P : Program} {t e : TypeId}
end
end Go.Am

set_option linter.unusedVariables false
set_option linter.unusedSimpArgs false
/- Loops over functions. -/
namespace Go.Am
open Go
/-- what no abstract heap holds -/
def farO : Obj → Bool
  | .loop _ => true
  | .deferred _ => true
  | _ => false
theorem Sim.notIm {P : Program} {f : Emb} {h : AH} {w : World} (hs : Sim P f h w) {L : Nat} {o : Obj} (hL : w.heap[L]? = some o) (ho : farO o = true) : ∀ (b : Nat) (x : AObj), h[b]? = some x → x.alive = true → (f b).blk ≠ L := by
  intro b x hb ha he
  obtain ⟨o', k1, k2⟩ := hs.obj b x hb ha
  rw [he, hL] at k1; cases k1
  cases x with
  | dead => cases ha
  | cells c es rw => obtain ⟨c', el, fr, k3, _⟩ := k2; subst k3; cases ho
  | map k es clock => obtain ⟨es', k3, _⟩ := k2; subst k3; cases ho
  | miter m s seen st => obtain ⟨_, m', k3, _⟩ := k2; subst k3; cases ho
theorem Sim.putO {P : Program} {f : Emb} {h : AH} {w : World} (hs : Sim P f h w) {L : Nat} {o : Obj} (hL : w.heap[L]? = some o) (ho : farO o = true) (o1 : Obj) : Sim P f h (w.putObj L o1) := by
  have hn := hs.notIm hL ho
  refine ⟨fun b x hb ha => ?_, hs.sep, hs.glob, hs.size, fun r ds hr => ?_, hs.laid, hs.ok⟩
  · obtain ⟨o', k1, k2⟩ := hs.obj b x hb ha
    exact ⟨o', (World.putObj_heap_other (hn b x hb ha)).trans k1, k2⟩
  · obtain ⟨⟨el, fr, k1⟩, k2⟩ := hs.rom r ds hr
    refine ⟨⟨el, fr, (World.putObj_heap_other fun he => ?_).trans k1⟩, k2⟩
    rw [he, hL] at k1; cases k1; cases ho
/-- more blocks behind -/
theorem Sim.more {P : Program} {f : Emb} {h : AH} {w w1 : World} (hs : Sim P f h w) (hw : ∀ r, r < w.heap.size → w1.heap[r]? = w.heap[r]?) : Sim P f h w1 := by
  refine ⟨fun b x hb ha => ?_, hs.sep, hs.glob, hs.size, fun r ds hr => ?_, hs.laid, hs.ok⟩
  · obtain ⟨o', k1, k2⟩ := hs.obj b x hb ha
    exact ⟨o', (hw _ (Array.getElem?_eq_some_iff.1 k1).1).trans k1, k2⟩
  · obtain ⟨⟨el, fr, k1⟩, k2⟩ := hs.rom r ds hr
    exact ⟨⟨el, fr, (hw _ (Array.getElem?_eq_some_iff.1 k1).1).trans k1⟩, k2⟩
/-- a step that may turn the loop's record, too -/
structure StepL (L : Nat) (P : Program) (f : Emb) (h : AH) (w : World) (f1 : Emb) (h1 : AH) (w1 : World) : Prop where
  sim : Sim P f1 h1 w1
  agree : Emb.Agree h.length f f1
  len : h.length ≤ h1.length
  os : w1.os = w.os
  tape : w1.tape = w.tape
  output : w1.output = w.output
  size : w.heap.size ≤ w1.heap.size
  block : ∀ r, r < w.heap.size → r ≠ L → (∀ b o, h[b]? = some o → o.rw = true → (f b).blk ≠ r) → w1.heap[r]? = w.heap[r]?
  drawn : w.drawn ≤ w1.drawn
  own : ∀ b o, h1[b]? = some o → o.rw = true → w.heap.size ≤ (f1 b).blk ∨ ∃ b0 o0, h[b0]? = some o0 ∧ o0.rw = true ∧ (f b0).blk = (f1 b).blk
theorem Step.toL {P : Program} {f f1 : Emb} {h h1 : AH} {w w1 : World} (s : Step P f h w f1 h1 w1) (L : Nat) : StepL L P f h w f1 h1 w1 :=
  ⟨s.sim, s.agree, s.len, s.keep.os, s.keep.tape, s.keep.output, s.keep.size, fun r hr _ hn => s.keep.block r hr hn, s.keep.drawn, s.own⟩
theorem StepL.trans {L : Nat} {P : Program} {f f1 f2 : Emb} {h h1 h2 : AH} {w w1 w2 : World} (s : StepL L P f h w f1 h1 w1) (t : StepL L P f1 h1 w1 f2 h2 w2) : StepL L P f h w f2 h2 w2 := by
  refine ⟨t.sim, s.agree.trans t.agree s.len, Nat.le_trans s.len t.len, t.os.trans s.os, t.tape.trans s.tape, t.output.trans s.output, Nat.le_trans s.size t.size, fun r hr hL hno => ?_, Nat.le_trans s.drawn t.drawn, fun b o hb ho => ?_⟩
  · have h1 := s.block r hr hL hno
    have h2 := t.block r (Nat.lt_of_lt_of_le hr s.size) hL (fun b o hb ho e => by
      rcases s.own b o hb ho with hge | ⟨b0, o0, hb0, ho0, he⟩
      · omega
      · exact hno b0 o0 hb0 ho0 (he.trans e))
    exact h2.trans h1
  · rcases t.own b o hb ho with hge | ⟨b0, o0, hb0, ho0, he⟩
    · exact .inl (Nat.le_trans s.size hge)
    · rcases s.own b0 o0 hb0 ho0 with h1 | ⟨b1, o1, h2, h3, h4⟩
      · exact .inl (by omega)
      · exact .inr ⟨b1, o1, h2, h3, h4.trans he⟩
/-- what no abstract heap holds lies axs it lay -/
theorem Step.far {P : Program} {f f1 : Emb} {h h1 : AH} {w w1 : World} (s : Step P f h w f1 h1 w1) (hs : Sim P f h w) {L : Nat} {o : Obj} (hL : w.heap[L]? = some o) (ho : farO o = true) : w1.heap[L]? = some o :=
  (s.keep.block L (Array.getElem?_eq_some_iff.1 hL).1 fun b x hb hx => hs.notIm hL ho b x hb (rw_alive hx)).trans hL
theorem StepL.far {l : Nat} {P : Program} {f f1 : Emb} {h h1 : AH} {w w1 : World} (s : StepL l P f h w f1 h1 w1) (hs : Sim P f h w) {L : Nat} {o : Obj} (hL : w.heap[L]? = some o) (ho : farO o = true) (hne : L ≠ l) : w1.heap[L]? = some o :=
  (s.block L (Array.getElem?_eq_some_iff.1 hL).1 hne fun b x hb hx => hs.notIm hL ho b x hb (rw_alive hx)).trans hL
/-- a loop over a function -/
structure LoopR where
  l : Nat
  fn : FuncId
  tmps : Array Value
  ps : Array Tmp
  assign : Code
  body : Code
  d : Nat
def LoopR.loop (R : LoopR) (s : LoopState) (pe : Option Code) : Loop := { state := s, pending := pe, fn := R.fn, tmps := R.tmps, params := R.ps, assign := R.assign, body := R.body, defers := R.d }
def LoopR.at (R : LoopR) (st : Option Code) : Obj := .loop (R.loop (if st.isNone then .ready else .done) st)
abbrev YRel := Array Value → AH → (Option Code → AH → Prop) → Prop
/-- what Y says of a round holds -/
def YOk (P : Program) (R : LoopR) (Y : YRel) (fb : Emb) (hb : AH) : Prop :=
  ∀ f h w args args' K, Y args h K → Sim P f h w → w.heap[R.l]? = some (R.at none) → ARel f h.length args args' → Emb.Agree hb.length fb f → hb.length ≤ h.length →
    args'.size = R.ps.size ∧ RoundIn Fence.wide 0 P R.l R.fn ((R.ps.zip args').foldl (fun t (p, v) => t.setIfInBounds p v) R.tmps) R.assign R.body w fun e w' =>
      ∃ st f1 h1, e = .returned (.bool st.isNone) ∧ K st h1 ∧ StepL R.l P f h w f1 h1 w' ∧ w'.heap[R.l]? = some (R.at st)
structure GI (P : Program) (R : LoopR) (fb : Emb) (hb : AH) (wb : World) (f : Emb) (ys : List Tmp) (a : Array Value) (h : AH) (st : Option Code) (a' : Act) (w : World) : Prop where
  step : StepL R.l P fb hb wb f h w
  tm : ARel f h.length a a'.tmps
  df : a'.defers = []
  lrec : w.heap[R.l]? = some (R.at st)
  ys : ∀ t ∈ ys, a'.tmps[t]? = some (.func (.yield R.l) #[] #[])
abbrev PostI := Exit → List Tmp → Array Value → AH → Option Code → Prop
def LiftI (P : Program) (R : LoopR) (fb : Emb) (hb : AH) (wb : World) (Q : PostI) : Exit → Act → World → Prop
  | .normal, a', w => ∃ f ys a h st, Q .normal ys a h st ∧ GI P R fb hb wb f ys a h st a' w
  | .exit id, a', w => ∃ f ys a h st, Q (.exit id) ys a h st ∧ GI P R fb hb wb f ys a h st a' w
  | .ret, a', w => ∃ f ys a h st, Q .ret ys a h st ∧ GI P R fb hb wb f ys a h st a' w
  | _, _, _ => False
/-- the iterator's code -/
def AWPI (P : Program) (Y : YRel) (hb : AH) (c : Code) (Q : PostI) (ys : List Tmp) (a : Array Value) (h : AH) (st : Option Code) : Prop :=
  ∀ R fb wb f a' w, YOk P R Y fb hb → GI P R fb hb wb f ys a h st a' w → c.wpIn Fence.wide 0 P (LiftI P R fb hb wb Q) a' w
def ydrop (ys : List Tmp) : Option Tmp → List Tmp
  | none => ys
  | some d => ys.filter fun t => !(t == d)
def ymove (ys : List Tmp) (n : Nat) : Option Tmp → List Tmp
  | none => ys
  | some d => if d < n then d :: ys else ys
/-- where yield stands in an operation: it is moved; it is called -/
inductive YAct where
  | no
  | moved
  | called (args : Array Operand)
def yact (ys : List Tmp) : Op → YAct
  | .move (.tmp t) => if ys.contains t then .moved else .no
  | .call ⟨.value (.tmp t), args, _⟩ => if ys.contains t then .called args else .no
  | _ => .no
def awlI (P : Program) (Y : YRel) (ops : Array Oper) (Q : PostI) : List Oper → List Tmp → Array Value → AH → Option Code → Prop
  | [], ys, a, h, st => Q .normal ys a h st
  | o :: rest, ys, a, h, st =>
    match gval ops a o with
    | some false => awlI P Y ops Q rest (ydrop ys o.dst) (aput a o.dst undef) h st
    | some true => match yact ys o.op with
      | .moved => awlI P Y ops Q rest (ymove ys a.size o.dst) (aput a o.dst junk) h st
      | .called args => st = none ∧ Y (args.map (aeval P a)) h fun st1 h1 => awlI P Y ops Q rest (ydrop ys o.dst) (aput a o.dst (.bool st1.isNone)) h1 st1
      | .no => match aop P (aeval P a) h o with
        | some (.val v h1) => awlI P Y ops Q rest (ydrop ys o.dst) (aput a o.dst v) h1 st
        | some (.skip h1) => awlI P Y ops Q rest (ydrop ys o.dst) (aput a o.dst undef) h1 st
        | some (.enter F args) => ∃ R, ACalls P F args h R ∧ ∀ v h1, R v h1 → awlI P Y ops Q rest (ydrop ys o.dst) (aput a o.dst v) h1 st
        | some (.any S) => ∀ v h1, S v h1 → awlI P Y ops Q rest (ydrop ys o.dst) (aput a o.dst v) h1 st
        | none => False
    | none => False
theorem operS_wp {P : Program} {f : Emb} {a : Array Value} {h : AH} {a' : Act} {w : World} (hs : Sim P f h w) (ht : ARel f h.length a a'.tmps) (o : Oper) {r : ARes} (hr : aop P (aeval P a) h o = some r)
    {K : Act → World → Prop} {Q : Exit → Act → World → Prop}
    (hk : match r with
      | .val v h1 => ∀ f1 v' w1, Step P f h w f1 h1 w1 → VRel f1 h1.length v v' → K (a'.put o.dst v') w1
      | .skip h1 => ∀ f1 w1, Step P f h w f1 h1 w1 → K (a'.put o.dst undef) w1
      | .enter F args => ∃ R, ACalls P F args h R ∧ ∀ v h1, R v h1 → ∀ f1 v' w1, Step P f h w f1 h1 w1 → VRel f1 h1.length v v' → K (a'.put o.dst v') w1
      | .any S => ∀ v h1, S v h1 → ∀ f1 v' w1, Step P f h w f1 h1 w1 → VRel f1 h1.length v v' → K (a'.put o.dst v') w1) :
    o.wpIn Fence.wide 0 P a' w K Q := by
  have hx := sound_aop hs (fun x => aeval_rel hs ht x) o hr
  refine ⟨fun _ _ => trivial, ?_⟩
  rw [show Fence.wide.round = none from rfl, semAt_R hr none]
  cases r with
  | val v h1 =>
    obtain ⟨f1, v', w1, e, st, hv⟩ := hx
    rw [e, Oper.uponIn_value]
    exact hk f1 v' w1 st hv
  | skip h1 =>
    obtain ⟨f1, w1, e, st⟩ := hx
    rw [e, Oper.uponIn_skip]
    exact hk f1 w1 st
  | enter F args =>
    obtain ⟨args', e, ha⟩ := hx
    obtain ⟨R, hc, hk⟩ := hk
    rw [e, Oper.uponIn_enter]
    refine ⟨fun h => (by cases h), CallsIn.fenceR ((hc.run f w args' hs ha).mono fun e w1 hx => ?_) none⟩
    obtain ⟨f1, v, v', h1, rfl, hR, st, hv⟩ := hx
    exact hk v h1 hR f1 v' w1 st hv
  | any S =>
    obtain ⟨f1, v, v', h1, w1, e, hS, st, hv⟩ := hx
    rw [e, Oper.uponIn_value]
    exact hk v h1 hS f1 v' w1 st hv
theorem put_ydrop {ys : List Tmp} {a' : Act} {v u : Value} (hy : ∀ t ∈ ys, a'.tmps[t]? = some u) (dst : Option Tmp) : ∀ t ∈ ydrop ys dst, (a'.put dst v).tmps[t]? = some u := by
  intro t ht
  cases dst with
  | none => exact hy t ht
  | some d =>
    simp only [ydrop, List.mem_filter, Bool.not_eq_true', beq_eq_false_iff_ne, ne_eq] at ht
    show (a'.tmps.setIfInBounds d v)[t]? = _
    rw [Array.getElem?_setIfInBounds_ne (fun e => ht.2 e.symm)]
    exact hy t ht.1
theorem GI.next {P : Program} {R : LoopR} {fb : Emb} {hb : AH} {wb : World} {f f1 : Emb} {ys : List Tmp} {a : Array Value} {h h1 : AH} {st : Option Code} {a' : Act} {w w1 : World} (g : GI P R fb hb wb f ys a h st a' w) (s : Step P f h w f1 h1 w1) (dst : Option Tmp) {v v' : Value} (hv : VRel f1 h1.length v v') :
    GI P R fb hb wb f1 (ydrop ys dst) (aput a dst v) h1 st (a'.put dst v') w1 :=
  ⟨g.step.trans (s.toL _), (g.tm.step s).aput dst hv, (put_defers _ _ _).trans g.df, s.far g.step.sim g.lrec rfl, put_ydrop g.ys dst⟩
theorem eval_tmp {a' : Act} {t : Tmp} {v : Value} (h : a'.tmps[t]? = some v) : a'.eval (.tmp t) = v := by
  show a'.tmps.getD t undef = v
  rw [Array.getD_eq_getD_getElem?, h]; rfl
theorem awlI_sound {P : Program} {Y : YRel} {ops : Array Oper} {Q : PostI} {R : LoopR} {fb : Emb} {hb : AH} {wb : World} (hY : YOk P R Y fb hb) (l : List Oper) : ∀ {f : Emb} {ys : List Tmp} {a : Array Value} {h : AH} {st : Option Code} {a' : Act} {w : World},
    awlI P Y ops Q l ys a h st → GI P R fb hb wb f ys a h st a' w → wpListIn Fence.wide 0 P ops (LiftI P R fb hb wb Q) l a' w := by
  induction l with
  | nil => intro f ys a h st a' w ha g; exact ⟨f, ys, a, h, st, ha, g⟩
  | cons o rest ih =>
    intro f ys a h st a' w ha g
    unfold awlI at ha
    split at ha
    · rename_i hg
      have hw := gval_wanted g.tm hg
      unfold wpListIn
      rw [if_neg (by simp [hw])]
      exact ⟨fun _ _ => trivial, ih ha (g.next (Step.refl g.step.sim) o.dst undef_rel)⟩
    · rename_i hg
      have hw := gval_wanted g.tm hg
      unfold wpListIn
      rw [if_pos hw]
      split at ha
      · rename_i hy
        -- yield is moved
        unfold yact at hy
        split at hy
        · rename_i t hop
          split at hy
          · rename_i ht
            have ht' : t ∈ ys := by simpa using ht
            refine ⟨fun _ _ => trivial, ?_⟩
            have e : (o.semAt Fence.wide.round a'.eval).run P w = .ok (.value (.func (.yield R.l) #[] #[])) w := by
              show (execOp a'.eval o).run P w = _
              unfold execOp
              rw [hop]
              simp only [eval_tmp (g.ys t ht')]
              rfl
            rw [e, Oper.uponIn_value]
            have g1 := g.next (Step.refl g.step.sim) o.dst (v := junk) (v' := .func (.yield R.l) #[] #[]) (.junk _)
            refine ih ha (GI.mk g1.step g1.tm g1.df g1.lrec fun t1 h1 => ?_)
            have hsz : a.size = a'.tmps.size := g.tm.1
            cases hd : o.dst with
            | none => rw [hd] at h1; exact g.ys t1 h1
            | some d =>
              rw [hd] at h1
              show (a'.tmps.setIfInBounds d _)[t1]? = _
              simp only [ymove, hsz] at h1
              by_cases hlt : d < a'.tmps.size
              · rw [if_pos hlt] at h1
                by_cases hdt : d = t1
                · subst hdt
                  rw [Array.getElem?_setIfInBounds_self_of_lt hlt]
                · rw [Array.getElem?_setIfInBounds_ne hdt]
                  simp only [List.mem_cons] at h1
                  rcases h1 with h1 | h1
                  · exact absurd h1.symm hdt
                  · exact g.ys t1 h1
              · rw [if_neg hlt] at h1
                have h2 := g.ys t1 h1
                have h3 := (Array.getElem?_eq_some_iff.1 h2).1
                have hne : d ≠ t1 := fun e => hlt (e ▸ h3)
                rw [Array.getElem?_setIfInBounds_ne hne]
                exact h2
          · cases hy
        · split at hy <;> cases hy
        · cases hy
      · rename_i args hy
        unfold yact at hy
        split at hy
        · split at hy <;> cases hy
        · rename_i t args' ts hop
          split at hy
          · rename_i ht
            cases hy
            have ht' : t ∈ ys := by simpa using ht
            obtain ⟨rfl, hyy⟩ := ha
            have hargs := arel_map (fun x => aeval_rel g.step.sim g.tm x) args
            obtain ⟨h1, h2⟩ := hY f h w _ _ _ hyy g.step.sim g.lrec hargs g.step.agree g.step.len
            refine ⟨fun _ _ => trivial, ?_⟩
            have e : (o.semAt Fence.wide.round a'.eval).run P w = .ok (.round R.l R.fn ((R.ps.zip (args.map a'.eval)).foldl (fun t (p, v) => t.setIfInBounds p v) R.tmps) R.assign R.body) w := by
              show (execOp a'.eval o).run P w = _
              unfold execOp
              rw [hop]
              simp only [resolve, eval_tmp (g.ys t ht'), Deferred.ofValue, Sem.run_bind, Sem.run_pure, Result.andThen_ok, invoke]
              rw [Array.empty_append]
              exact run_yield (P := P) (l := R.l) (r := R.loop .ready none) (args := args.map a'.eval) g.lrec h1
            rw [e, Oper.uponIn_round]
            refine ⟨fun h => (by cases h), h2.mono fun e w1 hx => ?_⟩
            obtain ⟨st1, f1, h3, rfl, hK, s, hr⟩ := hx
            exact ih hK ⟨g.step.trans s, (g.tm.mono s.len s.agree).aput o.dst (.bool _), (put_defers _ _ _).trans g.df, hr, put_ydrop g.ys o.dst⟩
          · cases hy
        · cases hy
      · rename_i hy
        split at ha
        · rename_i v h1 hr
          exact operS_wp g.step.sim g.tm o hr fun f1 v' w1 s hv => ih ha (g.next s o.dst hv)
        · rename_i h1 hr
          exact operS_wp g.step.sim g.tm o hr fun f1 w1 s => ih ha (g.next s o.dst undef_rel)
        · rename_i F args hr
          obtain ⟨R', hc, hk⟩ := ha
          exact operS_wp g.step.sim g.tm o hr ⟨R', hc, fun v h1 hR f1 v' w1 s hv => ih (hk v h1 hR) (g.next s o.dst hv)⟩
        · rename_i S hr
          exact operS_wp g.step.sim g.tm o hr fun v h1 hS f1 v' w1 s hv => ih (ha v h1 hS) (g.next s o.dst hv)
        · exact ha.elim
    · exact ha.elim
theorem AWPI.region {P : Program} {Y : YRel} {hb : AH} {id : Nat} {ops : Array Oper} {Q : PostI} {ys : List Tmp} {a : Array Value} {h : AH} {st : Option Code} (ha : awlI P Y ops Q ops.toList ys a h st) : AWPI P Y hb (.region id ops false) Q ys a h st :=
  fun R fb wb f a' w hY g => wpIn_region_list (awlI_sound hY ops.toList ha g)
def thenI (next : List Tmp → Array Value → AH → Option Code → Prop) (Q : PostI) : PostI
  | .normal, ys, a, h, st => next ys a h st
  | e, ys, a, h, st => Q e ys a h st
def inBlockI (id : Nat) (Q : PostI) : PostI
  | .exit id', ys, a, h, st => if id' = id then Q .normal ys a h st else Q (.exit id') ys a h st
  | e, ys, a, h, st => Q e ys a h st
theorem AWPI.seq {P : Program} {Y : YRel} {hb : AH} {x y : Code} {Q : PostI} {ys : List Tmp} {a : Array Value} {h : AH} {st : Option Code} (ha : AWPI P Y hb x (thenI (AWPI P Y hb y Q) Q) ys a h st) : AWPI P Y hb (.seq x y) Q ys a h st := by
  intro R fb wb f a' w hY g
  refine wpIn_seq (Go.wpIn_mono (ha R fb wb f a' w hY g) fun e a1 w1 hq => ?_)
  cases e with
  | normal => obtain ⟨f1, ys1, b, h1, st1, hk, g1⟩ := hq; exact hk R fb wb f1 a1 w1 hY g1
  | exit id => exact hq
  | goto l => exact hq
  | ret => exact hq
  | panic c => exact hq
  | outgrown => exact hq
theorem AWPI.block {P : Program} {Y : YRel} {hb : AH} {id : Nat} {c : Code} {Q : PostI} {ys : List Tmp} {a : Array Value} {h : AH} {st : Option Code} (ha : AWPI P Y hb c (inBlockI id Q) ys a h st) : AWPI P Y hb (.block id c) Q ys a h st := by
  intro R fb wb f a' w hY g
  refine wpIn_block (Go.wpIn_mono (ha R fb wb f a' w hY g) fun e a1 w1 hq => ?_)
  cases e with
  | normal => exact hq
  | exit id' =>
    obtain ⟨f1, ys1, b, h1, st1, hk, g1⟩ := hq
    simp only [inBlockI] at hk
    show if id' = id then _ else _
    split
    · rename_i he; rw [if_pos he] at hk; exact ⟨f1, ys1, b, h1, st1, hk, g1⟩
    · rename_i he; rw [if_neg he] at hk; exact ⟨f1, ys1, b, h1, st1, hk, g1⟩
  | goto l => exact hq
  | ret => exact hq
  | panic c => exact hq
  | outgrown => exact hq
theorem AWPI.mono {P : Program} {Y : YRel} {hb : AH} {c : Code} {Q Q' : PostI} {ys : List Tmp} {a : Array Value} {h : AH} {st : Option Code} (ha : AWPI P Y hb c Q ys a h st) (hq : ∀ e ys a h st, Q e ys a h st → Q' e ys a h st) : AWPI P Y hb c Q' ys a h st := by
  intro R fb wb f a' w hY g
  refine Go.wpIn_mono (ha R fb wb f a' w hY g) fun e a1 w1 hx => ?_
  cases e with
  | normal => obtain ⟨f1, ys1, b, h1, st1, hk, g1⟩ := hx; exact ⟨f1, ys1, b, h1, st1, hq _ _ _ _ _ hk, g1⟩
  | exit id => obtain ⟨f1, ys1, b, h1, st1, hk, g1⟩ := hx; exact ⟨f1, ys1, b, h1, st1, hq _ _ _ _ _ hk, g1⟩
  | ret => obtain ⟨f1, ys1, b, h1, st1, hk, g1⟩ := hx; exact ⟨f1, ys1, b, h1, st1, hq _ _ _ _ _ hk, g1⟩
  | goto l => exact hx
  | panic c => exact hx
  | outgrown => exact hx
/-- a frame of which less is known -/
theorem AWPI.less {P : Program} {Y : YRel} {hb : AH} {c : Code} {Q : PostI} {ys ys1 : List Tmp} {a a1 : Array Value} {h : AH} {st : Option Code} (hy : ∀ t ∈ ys1, t ∈ ys) (hsz : a1.size = a.size) (hv : ∀ i : Nat, a1.getD i junk = a.getD i junk ∨ a1.getD i junk = junk) (ha : AWPI P Y hb c Q ys1 a1 h st) : AWPI P Y hb c Q ys a h st := by
  intro R fb wb f a' w hY g
  exact ha R fb wb f a' w hY ⟨g.step, ⟨hsz.trans g.tm.1, fun i => by
    rcases hv i with e | e
    · rw [e]; exact g.tm.2 i
    · rw [e]; exact .junk _⟩, g.df, g.lrec, fun t ht => g.ys t (hy t ht)⟩
theorem AWPI.loop {P : Program} {Y : YRel} {hb : AH} {c : Code} {Q : PostI} {ys : List Tmp} {a : Array Value} {h : AH} {st : Option Code} (I : Nat → List Tmp → Array Value → AH → Option Code → Prop) {n : Nat} (hI : I n ys a h st)
    (round : ∀ n ys a h st, I n ys a h st → AWPI P Y hb c (thenI (fun ys1 a1 h1 st1 => ∃ m, m < n ∧ I m ys1 a1 h1 st1) Q) ys a h st) : AWPI P Y hb (.loop c) Q ys a h st := by
  intro R fb wb f a' w hY g
  refine wpIn_loop_ghost (fun n a' w => ∃ f ys a h st, I n ys a h st ∧ GI P R fb hb wb f ys a h st a' w) (fun n a' w hx => ?_) (n := n) ⟨f, ys, a, h, st, hI, g⟩
  obtain ⟨f1, ys1, b, h1, st1, hi, g1⟩ := hx
  refine Go.wpIn_mono (round n ys1 b h1 st1 hi R fb wb f1 a' w hY g1) fun e a1 w1 hq => ?_
  cases e with
  | normal =>
    obtain ⟨f2, ys2, b2, h2, st2, ⟨m, hm, hi2⟩, g2⟩ := hq
    exact ⟨m, hm, f2, ys2, b2, h2, st2, hi2, g2⟩
  | exit id => exact hq
  | goto l => exact hq
  | ret => exact hq
  | panic c => exact hq
  | outgrown => exact hq
/-- the iterator's code, taken apart -/
def ayI (P : Program) (Y : YRel) (hb : AH) : Code → PostI → List Tmp → Array Value → AH → Option Code → Prop
  | .skip, Q, ys, a, h, st => Q .normal ys a h st
  | .region _ ops false, Q, ys, a, h, st => awlI P Y ops Q ops.toList ys a h st
  | .seq x y, Q, ys, a, h, st => ayI P Y hb x (thenI (ayI P Y hb y Q) Q) ys a h st
  | .cond c x y, Q, ys, a, h, st => ∃ t, aeval P a c = .bool t ∧ (t = true → ayI P Y hb x Q ys a h st) ∧ (t = false → ayI P Y hb y Q ys a h st)
  | .block id c, Q, ys, a, h, st => ayI P Y hb c (inBlockI id Q) ys a h st
  | .exit id, Q, ys, a, h, st => Q (.exit id) ys a h st
  | .ret, Q, ys, a, h, st => Q .ret ys a h st
  | c, Q, ys, a, h, st => AWPI P Y hb c Q ys a h st
theorem thenI_mono {next next' : List Tmp → Array Value → AH → Option Code → Prop} {Q : PostI} (hn : ∀ ys a h st, next ys a h st → next' ys a h st) : ∀ e ys a h st, thenI next Q e ys a h st → thenI next' Q e ys a h st := by
  intro e ys a h st hq; cases e <;> first | exact hn _ _ _ _ hq | exact hq
theorem ayI_sound {P : Program} {Y : YRel} {hb : AH} (c : Code) : ∀ (Q : PostI) (ys : List Tmp) (a : Array Value) (h : AH) (st : Option Code), ayI P Y hb c Q ys a h st → AWPI P Y hb c Q ys a h st := by
  induction c with
  | skip => intro Q ys a h st ha R fb wb f a' w hY g; exact Go.wpIn_skip ⟨f, ys, a, h, st, ha, g⟩
  | region id ops draw =>
    intro Q ys a h st ha
    cases draw with
    | false => exact AWPI.region ha
    | true => exact ha
  | seq x y ihx ihy => intro Q ys a h st ha; exact AWPI.seq (AWPI.mono (ihx _ ys a h st ha) (thenI_mono fun ys a h st hx => ihy Q ys a h st hx))
  | cond c x y ihx ihy =>
    intro Q ys a h st ha R fb wb f a' w hY g
    obtain ⟨t, ht, h1, h2⟩ := ha
    have hc := aeval_rel g.step.sim g.tm c
    rw [ht] at hc
    refine wpIn_cond_split hc.bool_inv (fun e => ?_) (fun e => ?_)
    · exact ihx Q ys a h st (h1 e) R fb wb f a' w hY g
    · exact ihy Q ys a h st (h2 e) R fb wb f a' w hY g
  | block id c ih => intro Q ys a h st ha; exact AWPI.block (ih _ ys a h st ha)
  | loop c ih => intro Q ys a h st ha; exact ha
  | rangeFunc f ps asg c ih1 ih2 => intro Q ys a h st ha; exact ha
  | exit id => intro Q ys a h st ha R fb wb f a' w hY g; exact Go.wpIn_exit ⟨f, ys, a, h, st, ha, g⟩
  | scope c ih => intro Q ys a h st ha; exact ha
  | label l => intro Q ys a h st ha; exact ha
  | goto l => intro Q ys a h st ha; exact ha
  | ret => intro Q ys a h st ha R fb wb f a' w hY g; exact Go.wpIn_ret ⟨f, ys, a, h, st, ha, g⟩
  | refuse why => intro Q ys a h st ha; exact ha
/-- an iterator's contract -/
structure AIter (P : Program) (K : FuncId) (caps : Array Value) (h : AH) (Y : YRel) (Z : AH → Option Code → Prop) : Prop where
  run : ∀ (R : LoopR) (f : Emb) (w : World) (caps' : Array Value), YOk P R Y f h → Sim P f h w → w.heap[R.l]? = some (R.at none) → ARel f h.length caps caps' →
    CallsIn Fence.wide 0 P K (#[.func (.yield R.l) #[] #[]] ++ caps') w fun e w' => ∃ v f1 h1 st, e = .returned v ∧ Z h1 st ∧ StepL R.l P f h w f1 h1 w' ∧ w'.heap[R.l]? = some (R.at st)
def postI (Z : AH → Option Code → Prop) : PostI
  | .normal, _, _, h, st | .ret, _, _, h, st => Z h st
  | _, _, _, _, _ => False
theorem AIter.of_ayI {P : Program} {K : FuncId} {fn : Func} {c : Code} (hf : P.funcs[K]? = some fn) (hb : fn.body = some c) (hr : fn.results = #[]) {n : Nat} (hn : fn.ntmps = n) {caps : List Value} {h : AH} {Y : YRel} {Z : AH → Option Code → Prop}
    (hlt : 0 < n) (ha : ayI P Y h c (postI Z) [0] (junk :: caps ++ List.replicate (n - (caps.length + 1)) undef).toArray h none) : AIter P K caps.toArray h Y Z := by
  refine ⟨fun R f w caps' hY hs hl hc => ?_⟩
  have e0 : (junk :: caps ++ List.replicate (n - (caps.length + 1)) undef).toArray = #[junk] ++ caps.toArray ++ Array.replicate (n - (caps.length + 1)) undef := by simp
  have hcs : caps.length = caps'.size := by simpa using hc.1
  have g : GI P R f h w f [0] (junk :: caps ++ List.replicate (n - (caps.length + 1)) undef).toArray h none { tmps := (#[Value.func (.yield R.l) #[] #[]] ++ caps') ++ Array.replicate (fn.ntmps - (#[Value.func (.yield R.l) #[] #[]] ++ caps').size) undef, defers := [] } w := by
    refine ⟨(Step.refl hs).toL _, ?_, rfl, hl, fun t ht => ?_⟩
    · rw [e0]
      have e1 : fn.ntmps - (#[Value.func (.yield R.l) #[] #[]] ++ caps').size = n - (caps.length + 1) := by rw [hn, Array.size_append, ← hcs]; simp; omega
      rw [e1]
      refine arel_append (arel_append ⟨rfl, fun i => ?_⟩ hc) ⟨rfl, fun i => ?_⟩
      · cases i with
        | zero => exact .junk _
        | succ i => simp [Array.getD]; exact .junk _
      · by_cases hi : i < n - (caps.length + 1)
        · have : (Array.replicate (n - (caps.length + 1)) undef).getD i junk = undef := by simp [Array.getD, hi]
          rw [this]; exact undef_rel
        · rw [getD_ge i (by simpa using hi)]; exact .junk _
    · simp only [List.mem_singleton] at ht
      subst ht
      rw [Array.getElem?_append_left (by simp; omega), Array.getElem?_append_left (by simp)]
      rfl
  refine callsIn_of_wp hf hb trivial (Go.wpIn_mono (ayI_sound c _ _ _ _ _ ha R f w f _ w hY g) fun e a1 w1 hq => ?_)
  have fin : ∀ f1 ys b h1 st, Z h1 st → GI P R f h w f1 ys b h1 st a1 w1 → a1.defers = [] ∧ ∃ v, (results fn a1.tmps).run P w1 = .ok v w1 ∧ ∃ v' f1 h1 st, Ending.returned v = .returned v' ∧ Z h1 st ∧ StepL R.l P f h w f1 h1 w1 ∧ w1.heap[R.l]? = some (R.at st) := by
    intro f1 ys b h1 st hz g1
    have hv : aresults P fn b h1 = some undef := by
      unfold aresults
      rw [hr]; rfl
    obtain ⟨v', k1, _⟩ := run_results g1.step.sim g1.tm hv
    exact ⟨g1.df, v', k1, _, f1, h1, st, rfl, hz, g1.step, g1.lrec⟩
  cases e with
  | normal => obtain ⟨f1, ys, b, h1, st, hk, g1⟩ := hq; exact fin f1 ys b h1 st hk g1
  | ret => obtain ⟨f1, ys, b, h1, st, hk, g1⟩ := hq; exact fin f1 ys b h1 st hk g1
  | exit id => obtain ⟨f1, ys, b, h1, st, hk, g1⟩ := hq; exact hk.elim
  | goto l => exact hq.elim
  | panic c => exact hq.elim
  | outgrown => exact hq.elim
/-! ### the loop -/
def roundQ (P : Program) (h : AH) (K : Option Code → AH → Prop) : Exit → Array Value → AH → Prop
  | .normal, _, h2 => ∃ h3, Eases P h #[] h2 #[] h3 ∧ K none h3
  | .ret, _, h2 => ∃ h3, Eases P h #[] h2 #[] h3 ∧ K (some .ret) h3
  | .exit id, _, h2 => ∃ h3, Eases P h #[] h2 #[] h3 ∧ K (some (.exit id)) h3
  | _, _, _ => False
/-- a round, on the frame that the loop began with -/
def roundY (P : Program) (a : Array Value) (ps : Array Tmp) (assign body : Code) : YRel := fun args h K =>
  args.size = ps.size ∧ AWP P h assign (thenA (AWP P h body (roundQ P h K)) fun _ _ _ => False) ((ps.zip args).foldl (fun t (p, v) => t.setIfInBounds p v) a) h
theorem arel_fold {f : Emb} {L : Nat} : ∀ (ps : List Tmp) (xs ys : List Value) {a b : Array Value}, ARel f L a b → xs.length = ys.length → (∀ i : Nat, VRel f L (xs.getD i junk) (ys.getD i junk)) →
    ARel f L ((ps.zip xs).foldl (fun t (p, v) => t.setIfInBounds p v) a) ((ps.zip ys).foldl (fun t (p, v) => t.setIfInBounds p v) b)
  | [], _, _, _, _, h, _, _ => by simpa using h
  | _ :: _, [], [], _, _, h, _, _ => by simpa using h
  | p :: ps, x :: xs, y :: ys, a, b, h, hl, hv => by
    simp only [List.zip_cons_cons, List.foldl_cons]
    exact arel_fold ps xs ys (h.set p (by simpa using hv 0)) (by simpa using hl) fun i => by simpa using hv (i + 1)
  | _ :: _, [], _ :: _, _, _, _, hl, _ => by simp at hl
  | _ :: _, _ :: _, [], _, _, _, hl, _ => by simp at hl
theorem roundY_ok {P : Program} {R : LoopR} {fb : Emb} {hb : AH} {a : Array Value} (ht : ARel fb hb.length a R.tmps) : YOk P R (roundY P a R.ps R.assign R.body) fb hb := by
  intro f h w args args' K hY hs hl hargs hag hlen
  obtain ⟨hsz, hA⟩ := hY
  refine ⟨hargs.1.symm.trans hsz, ?_⟩
  have hL : R.l < w.heap.size := (Array.getElem?_eq_some_iff.1 hl).1
  have hfold : ∀ (t : Array Value) (vs : Array Value), (R.ps.zip vs).foldl (fun t (p, v) => t.setIfInBounds p v) t = (R.ps.toList.zip vs.toList).foldl (fun t (p, v) => t.setIfInBounds p v) t := fun t vs => by
    rw [← Array.foldl_toList, Array.toList_zip]
  have htm : ARel f h.length ((R.ps.zip args).foldl (fun t (p, v) => t.setIfInBounds p v) a) ((R.ps.zip args').foldl (fun t (p, v) => t.setIfInBounds p v) R.tmps) := by
    rw [hfold, hfold]
    refine arel_fold _ _ _ (ht.mono hlen hag) (by simpa using hargs.1) fun i => ?_
    have := hargs.2 i
    simpa [Array.getD_eq_getD_getElem?, List.getD] using this
  have hni : ∀ b o, h[b]? = some o → o.rw = true → (f b).blk ≠ R.l := fun b o hb ho => hs.notIm hl rfl b o hb (rw_alive ho)
  have g : Good P f h w f ((R.ps.zip args).foldl (fun t (p, v) => t.setIfInBounds p v) a) h { tmps := (R.ps.zip args').foldl (fun t (p, v) => t.setIfInBounds p v) R.tmps, defers := [] } w :=
    ⟨hs, htm, .nil, Keep.refl _ _ _, fun b o hb ho => .inr ⟨b, o, hb, ho, rfl⟩, .refl _ _, Nat.le_refl _⟩
  refine roundIn_of_wpIn trivial (Go.wpIn_mono (hA f w f _ w hs g (some R.l) ⟨⟨_, hl⟩, hni⟩) fun e a1 w1 hq => ?_)
  cases e with
  | exit id => obtain ⟨_, _, _, hk, _⟩ := hq; exact hk.elim
  | goto l => obtain ⟨_, _, _, hk, _⟩ := hq; exact hk.elim
  | ret => obtain ⟨_, _, _, hk, _⟩ := hq; exact hk.elim
  | panic c => exact hq.elim
  | outgrown => exact hq.elim
  | normal =>
    obtain ⟨f1, b1, h1, hB, g1⟩ := hq
    have hl1 : w1.heap[R.l]? = some (R.at none) := (g1.keep.block R.l hL hni).trans hl
    refine ⟨w1.putObj R.l (.loop (R.loop .busy none)), run_beginRound hl1 rfl, ?_⟩
    generalize hwB : w.putObj R.l (.loop (R.loop .busy none)) = wB
    generalize hw2 : w1.putObj R.l (.loop (R.loop .busy none)) = w2
    have hsB : Sim P f h wB := hwB ▸ hs.putO hl rfl _
    have hs2 : Sim P f1 h1 w2 := hw2 ▸ g1.sim.putO hl1 rfl _
    have szB : wB.heap.size = w.heap.size := by rw [← hwB]; simp
    have sz2 : w2.heap.size = w1.heap.size := by rw [← hw2]; simp
    have hL1 : R.l < w1.heap.size := Nat.lt_of_lt_of_le hL g1.keep.size
    have hlB : wB.heap[R.l]? = some (.loop (R.loop .busy none)) := by rw [← hwB]; exact World.putObj_heap_same hL
    have hl2 : w2.heap[R.l]? = some (.loop (R.loop .busy none)) := by rw [← hw2]; exact World.putObj_heap_same hL1
    have otB : ∀ {k : Nat}, k ≠ R.l → wB.heap[k]? = w.heap[k]? := fun hk => by rw [← hwB]; exact World.putObj_heap_other hk
    have ot2 : ∀ {k : Nat}, k ≠ R.l → w2.heap[k]? = w1.heap[k]? := fun hk => by rw [← hw2]; exact World.putObj_heap_other hk
    have g2 : Good P f h wB f1 b1 h1 a1 w2 := by
      refine ⟨hs2, g1.tm, ⟨fun d hd => ?_, g1.df.apart⟩, ⟨?_, ?_, ?_, by rw [szB, sz2]; exact g1.keep.size, fun r hr hno => ?_, ?_⟩, fun b o hb ho => by rw [szB]; exact g1.own b o hb ho, g1.agree, g1.len⟩
      · obtain ⟨D, k1, k2, k3, k4⟩ := g1.df.each d hd
        exact ⟨D, k1, by rw [szB]; exact k2, (ot2 (by omega)).trans k3, k4⟩
      · rw [← hw2, ← hwB]; exact g1.keep.os
      · rw [← hw2, ← hwB]; exact g1.keep.tape
      · rw [← hw2, ← hwB]; exact g1.keep.output
      · by_cases he : r = R.l
        · subst he; rw [hl2, hlB]
        · rw [ot2 he, otB he]; exact g1.keep.block r (by omega) hno
      · rw [← hw2, ← hwB]; exact g1.keep.drawn
    refine Go.wpIn_mono (hB f wB f1 a1 w2 hsB g2 (some R.l) ⟨⟨_, hlB⟩, hni⟩) fun e a2 w3 hq => ?_
    have fin : ∀ (jump : Option Code) (f2 : Emb) (b2 : Array Value) (h2 : AH), (∃ h3, Eases P h #[] h2 #[] h3 ∧ K jump h3) → Good P f h wB f2 b2 h2 a2 w3 →
        ∃ v w', (Instr.endRound R.l jump).run P w3 = .ok v w' ∧ ∃ st f1 h1, Ending.returned v = .returned (.bool st.isNone) ∧ K st h1 ∧ StepL R.l P f h w f1 h1 w' ∧ w'.heap[R.l]? = some (R.at st) := by
      intro jump f2 b2 h2 hx g3
      obtain ⟨h3, hE, hK⟩ := hx
      have g3' : Good P f h wB f2 #[] h2 { tmps := #[], defers := a2.defers } w3 := ⟨g3.sim, ⟨rfl, fun i => by simp; exact .junk _⟩, g3.df, g3.keep, g3.own, g3.agree, g3.len⟩
      obtain ⟨f3, g4⟩ := hE f wB f2 _ w3 hsB g3'
      have hl3 : w3.heap[R.l]? = some (.loop (R.loop .busy none)) := (g4.keep.block R.l (by rw [szB]; exact hL) hni).trans hlB
      have hr := run_endRound (P := P) jump hl3
      have hL3 : R.l < w3.heap.size := (Array.getElem?_eq_some_iff.1 hl3).1
      have hk := g4.keep.size
      refine ⟨_, _, hr, jump, f3, h3, rfl, hK, ⟨g4.sim.putO hl3 rfl _, g4.agree, g4.len, ?_, ?_, ?_, ?_, fun r hr hne hno => ?_, ?_, fun b o hb ho => ?_⟩, World.putObj_heap_same hL3⟩
      · have := g4.keep.os; rw [← hwB] at this; exact this
      · have := g4.keep.tape; rw [← hwB] at this; exact this
      · have := g4.keep.output; rw [← hwB] at this; exact this
      · rw [szB] at hk; simpa using hk
      · rw [World.putObj_heap_other hne, g4.keep.block r (by omega) hno, otB hne]
      · have := g4.keep.drawn; rw [← hwB] at this; exact this
      · have := g4.own b o hb ho; rw [szB] at this; exact this
    cases e with
    | normal => obtain ⟨f2, b2, h2, hk, g3⟩ := hq; exact fin none f2 b2 h2 hk g3
    | ret => obtain ⟨f2, b2, h2, hk, g3⟩ := hq; exact fin (some .ret) f2 b2 h2 hk g3
    | exit id => obtain ⟨f2, b2, h2, hk, g3⟩ := hq; exact fin (some (.exit id)) f2 b2 h2 hk g3
    | goto l => obtain ⟨_, _, _, hk, _⟩ := hq; exact hk.elim
    | panic c => exact hq.elim
    | outgrown => exact hq.elim
end Go.Am

set_option linter.unusedVariables false
set_option linter.unusedSimpArgs false
/- The loop over a function. -/
namespace Go.Am
open Go
/-- entering: the record, and, where it is the outermost one, the block for what is deferred -/
theorem enter_loop {P : Program} {f0 f : Emb} {h0 h : AH} {w0 w : World} {a : Array Value} {a' : Act} (g : Good P f0 h0 w0 f a h a' w) (fn : FuncId) (ps : Array Tmp) (assign body : Code) (ro : Option Nat) (hrb : RoundBase f0 h0 w0 ro) :
    ∃ (R : LoopR) (mark : List Deferred) (w1 : World), R.tmps = a'.tmps ∧ R.ps = ps ∧ R.assign = assign ∧ R.body = body ∧ (Instr.enterLoop fn a'.tmps ps assign body ro).run P w = .ok (R.l, mark) w1 ∧ w1.heap[R.l]? = some (R.at none) ∧ w.heap.size ≤ R.l ∧
      (∀ r, r < w.heap.size → w1.heap[r]? = w.heap[r]?) ∧ w1.os = w.os ∧ w1.tape = w.tape ∧ w1.output = w.output ∧ w1.drawn = w.drawn ∧ w.heap.size ≤ w1.heap.size ∧
      (∀ d ∈ mark, ∃ D, d = { target := .collected D, args := #[] } ∧ w.heap.size ≤ D ∧ D ≠ R.l ∧ w1.heap[D]? = some (.deferred (some []))) ∧ mark.Nodup := by
  cases ro with
  | none =>
    refine ⟨⟨w.heap.size + 1, fn, a'.tmps, ps, assign, body, w.heap.size⟩, _, _, rfl, rfl, rfl, rfl, run_enterLoop_outer _ _ _ _ _, ?_, Nat.le_succ _, fun r hr => ?_, rfl, rfl, rfl, rfl, by simp; omega, fun d hd => ?_, by simp⟩
    · have := World.alloc_heap_new (w.alloc (.deferred (some []))) (.loop ((⟨w.heap.size + 1, fn, a'.tmps, ps, assign, body, w.heap.size⟩ : LoopR).loop .ready none))
      rwa [World.size_alloc] at this
    · exact (RowKit.Below.heap_alloc _ _ _ (by simp; omega)).trans (RowKit.Below.heap_alloc _ _ _ hr)
    · simp only [List.mem_singleton] at hd
      exact ⟨w.heap.size, hd, Nat.le_refl _, by simp, (RowKit.Below.heap_alloc _ _ _ (by simp)).trans (World.alloc_heap_new w _)⟩
  | some l0 =>
    obtain ⟨⟨r0, hl0⟩, hni⟩ := hrb
    have hl1 : w.heap[l0]? = some (.loop r0) := (g.keep.block l0 (Array.getElem?_eq_some_iff.1 hl0).1 hni).trans hl0
    refine ⟨⟨w.heap.size, fn, a'.tmps, ps, assign, body, r0.defers⟩, _, _, rfl, rfl, rfl, rfl, run_enterLoop_inner hl1 _ _ _ _ _, ?_, Nat.le_refl _, fun r hr => ?_, rfl, rfl, rfl, rfl, by simp, fun d hd => by simp at hd, by simp⟩
    · exact World.alloc_heap_new w (.loop ((⟨w.heap.size, fn, a'.tmps, ps, assign, body, r0.defers⟩ : LoopR).loop .ready none))
    · exact RowKit.Below.heap_alloc _ _ _ hr
theorem AWP.rangeFunc {P : Program} {h0 : AH} {g : Operand} {ps : Array Tmp} {assign body : Code} {Q : Exit → Array Value → AH → Prop} {a : Array Value} {h : AH} {K : FuncId} {caps : Array Value} {Z : AH → Option Code → Prop}
    (hg : aeval P a g = .func (.func K) #[] caps) (hK : hasBody P K = true) (hit : AIter P K caps h (roundY P a ps assign body) Z)
    (hq : ∀ h1 st, Z h1 st → match st with
      | none => Q .normal a h1
      | some c => AWP P h0 c Q a h1) : AWP P h0 (.rangeFunc g ps assign body) Q a h := by
  intro f0 w0 f a' w s0 gd ro hrb
  refine wpIn_rangeFunc fun fn _ => ?_
  obtain ⟨R, mark, w1, e1, e2, e3, e4, hent, hl, hwl, hold, hos, htape, hout, hdr, hsz, hmark, hnd⟩ := enter_loop gd fn ps assign body ro hrb
  have hgv := aeval_rel gd.sim gd.tm g
  rw [hg] at hgv
  generalize hge : a'.eval g = gv at hgv
  cases hgv with
  | func _ _ ys _ ds hfn hx hxy hc hcd =>
    have hys : ys = #[] := Array.eq_empty_of_size_eq_zero (by simpa using hx.symm)
    subst hys
    have hs1 : Sim P f h w1 := gd.sim.more hold
    have hY : YOk P R (roundY P a ps assign body) f h := by
      have := roundY_ok (P := P) (R := R) (fb := f) (hb := h) (a := a) (e1 ▸ gd.tm)
      rwa [e2, e3, e4] at this
    refine ⟨R.l, mark, w1, { target := .fn (.func K) ds, args := #[.func (.yield R.l) #[] #[]] }, w1, K, #[.func (.yield R.l) #[] #[]] ++ ds, w1, hent, ?_, fun _ _ => trivial, ?_, fun h => (by cases h), ?_⟩
    · simp only [resolve, hge, Deferred.ofValue, Sem.run_pure, List.map_toArray, List.map_cons, List.map_nil, Array.empty_append]
      rfl
    · simp only [invoke, run_callFunc hK]
    · have hcall := hit.run R f w1 ds hY hs1 hl ⟨hc, hcd⟩
      have hcall' : CallsIn (fenceR ro) (0 - 1) P K (#[.func (.yield R.l) #[] #[]] ++ ds) w1 fun e w' => ∃ v f1 h1 st, e = .returned v ∧ Z h1 st ∧ StepL R.l P f h w1 f1 h1 w' ∧ w'.heap[R.l]? = some (R.at st) := by
        cases ro with
        | none => exact hcall
        | some l => exact CallsIn.inRound l hcall
      refine hcall'.mono fun e w3 hx => ?_
      obtain ⟨v, f1, h1, st, rfl, hZ, sl, hl3⟩ := hx
      have hne : (R.loop (if st.isNone = true then LoopState.ready else .done) st).state ≠ .busy := by
        show (if st.isNone = true then LoopState.ready else .done) ≠ .busy
        split <;> simp
      have hend := run_endLoop (P := P) hl3 hne
      have hL3 : R.l < w3.heap.size := (Array.getElem?_eq_some_iff.1 hl3).1
      generalize hw4 : w3.putObj R.l (.loop { R.loop (if st.isNone = true then LoopState.ready else .done) st with state := .exhausted }) = w4 at hend
      have ot4 : ∀ {k : Nat}, k ≠ R.l → w4.heap[k]? = w3.heap[k]? := fun hk => by rw [← hw4]; exact World.putObj_heap_other hk
      have hs4 : Sim P f1 h1 w4 := by rw [← hw4]; exact sl.sim.putO hl3 rfl _
      have sz4 : w4.heap.size = w3.heap.size := by rw [← hw4]; simp
      have k0 := gd.keep.size
      have k1 := sl.size
      have farM : ∀ {D : Nat}, w1.heap[D]? = some (.deferred (some [])) → D ≠ R.l → w4.heap[D]? = some (.deferred (some [])) := fun hD hne => (ot4 hne).trans (sl.far hs1 hD rfl hne)
      have good : Good P f0 h0 w0 f1 a h1 { tmps := a'.tmps, defers := mark ++ a'.defers } w4 := by
        refine ⟨hs4, gd.tm.mono sl.len sl.agree, ⟨fun d hd => ?_, ?_⟩, ⟨?_, ?_, ?_, by omega, fun r hr hno => ?_, ?_⟩, fun b o hb ho => ?_, gd.agree.trans sl.agree gd.len, Nat.le_trans gd.len sl.len⟩
        · rcases List.mem_append.1 hd with hd | hd
          · obtain ⟨D, q1, q2, q3, q4⟩ := hmark d hd
            have q5 := farM q4 q3
            exact ⟨D, q1, by omega, q5, fun b o hb ho => hs4.notIm q5 rfl b o hb (rw_alive ho)⟩
          · obtain ⟨D, q1, q2, q3, _⟩ := gd.df.each d hd
            have hDlt := (Array.getElem?_eq_some_iff.1 q3).1
            have q5 := farM ((hold D hDlt).trans q3) (by omega)
            exact ⟨D, q1, q2, q5, fun b o hb ho => hs4.notIm q5 rfl b o hb (rw_alive ho)⟩
        · refine List.nodup_append.2 ⟨hnd, gd.df.apart, fun d hd d2 hd2 he => ?_⟩
          obtain ⟨D, q1, q2, _⟩ := hmark d hd
          obtain ⟨D2, p1, p2, p3, _⟩ := gd.df.each d2 hd2
          have hDlt := (Array.getElem?_eq_some_iff.1 p3).1
          rw [q1, p1] at he
          injection he with he1 _
          injection he1 with he2
          omega
        · rw [← hw4]; exact sl.os.trans (hos.trans gd.keep.os)
        · rw [← hw4]; exact sl.tape.trans (htape.trans gd.keep.tape)
        · rw [← hw4]; exact sl.output.trans (hout.trans gd.keep.output)
        · rw [ot4 (by omega), sl.block r (by omega) (by omega) ?_, hold r (by omega)]
          · exact gd.keep.block r hr hno
          · intro b o hb ho he
            rcases gd.own b o hb ho with h2 | ⟨b0, o0, h2, h3, h4⟩
            · omega
            · exact hno b0 o0 h2 h3 (h4.trans he)
        · rw [← hw4]
          exact Nat.le_trans gd.keep.drawn (Nat.le_trans (Nat.le_of_eq hdr.symm) sl.drawn)
        · rcases sl.own b o hb ho with h2 | ⟨b0, o0, h2, h3, h4⟩
          · exact .inl (by omega)
          · rcases gd.own b0 o0 h2 h3 with h5 | ⟨b1, o1, h5, h6, h7⟩
            · exact .inl (by omega)
            · exact .inr ⟨b1, o1, h5, h6, h7.trans h4⟩
      have hq' := hq h1 st hZ
      refine ⟨st, w4, hend, ?_⟩
      cases st with
      | none => exact ⟨f1, a, h1, hq', good⟩
      | some c => exact hq' f0 w0 f1 _ w4 s0 good ro hrb
end Go.Am

set_option linter.unusedVariables false
set_option linter.unusedSimpArgs false
/- slices.SortFunc at rows of structs, by the library's contract. -/
namespace Go.Am
open Go Go.Proofs Go.Sort Go.Shelf
theorem grown_of {w w' : World} (h1 : w'.os = w.os) (h2 : w'.tape = w.tape) (h3 : w'.output = w.output) (h4 : w.heap.size ≤ w'.heap.size) (h5 : ∀ r, r < w.heap.size → w'.heap[r]? = w.heap[r]?) (h6 : w.drawn ≤ w'.drawn) : ∃ q os', w' = grow (w.drewN q) os' := by
  refine ⟨w'.drawn - w.drawn, w'.heap.extract w.heap.size w'.heap.size, ?_⟩
  obtain ⟨hp, tp, dr, os, out⟩ := w
  obtain ⟨hp', tp', dr', os', out'⟩ := w'
  simp only at h1 h2 h3 h4 h5 h6
  subst h1; subst h2; subst h3
  show World.mk hp' tp' dr' os' out' = World.mk (hp ++ hp'.extract hp.size hp'.size) tp' (dr + (dr' - dr)) os' out'
  have e1 : dr + (dr' - dr) = dr' := by omega
  have e2 : hp ++ hp'.extract hp.size hp'.size = hp' := by
    apply Array.ext_getElem?
    intro i
    by_cases hi : i < hp.size
    · rw [Array.getElem?_append_left hi, h5 i hi]
    · rw [Array.getElem?_append_right (by omega), Array.getElem?_extract]
      by_cases h7 : i < hp'.size
      · rw [if_pos (by omega)]
        congr 1; omega
      · rw [if_neg (by omega), Array.getElem?_eq_none (by omega)]
  rw [e1, e2]
section
variable {P : Program} {ρ : Ren} {α : Type} [Inhabited α] {enc : α → List Value} {k : Nat}
theorem flatK_eq (hk : ∀ x, (enc x).length = k) (l : List α) : flatK enc k l.toArray = flatV enc l := by
  have hs := flat_size hk l
  apply Array.ext
  · rw [size_flatK, hs]; simp
  · intro t h1 h2
    have ht : t < l.length * k := by rw [← hs]; exact h2
    have hk0 : 0 < k := Nat.pos_of_ne_zero fun e => by subst e; simp at ht
    have hq : t / k < l.length := Nat.div_lt_of_lt_mul (by rw [Nat.mul_comm]; exact ht)
    have hm : t % k < k := Nat.mod_lt _ hk0
    have e1 := get_flatK enc k l.toArray t (by simpa using ht)
    rw [getElem!_pos _ t h1] at e1
    rw [e1]
    have e2 := flat_getElem? hk hq hm
    rw [show t / k * k + t % k = t by rw [Nat.mul_comm]; exact Nat.div_add_mod t k, Array.getElem?_eq_getElem h2] at e2
    have e3 : l.toArray[t / k]! = l[t / k] := by
      rw [getElem!_pos _ _ (by simpa using hq)]; simp
    rw [e3, getElem!_pos _ _ (by rw [hk]; exact hm)]
    rw [List.getElem?_eq_getElem (by rw [hk]; exact hm)] at e2
    exact (Option.some.inj e2).symm
theorem cmpLays_of (hl : laidOutB P = true) {g : Nat} {cf : α → α → Int} (hp : ∀ x, ∀ v ∈ enc x, plain1 v = true)
    (hc : ∀ x y (h : AH), ACalls P g #[.agg (enc x).toArray, .agg (enc y).toArray] h (fun v h' => v = .int .i64 (cf x y) ∧ h' = h)) (blk off size : Nat) (w : World) : CmpLays P g #[] enc k cf blk off size w := by
  intro m os dk hs x y
  have hagg : ∀ x : α, plainB (.agg (enc x).toArray) = true := fun x => by
    show (enc x).toArray.all plain1 = true
    simp only [List.all_toArray, List.all_eq_true]
    exact hp x
  have key : ∀ W : World, Calls P g (#[.agg (enc x).toArray, .agg (enc y).toArray] ++ #[]) W fun e w' => e = .returned (.int .i64 (cf x y)) ∧ ∃ q os', w' = grow (W.drewN q) os' := by
    intro W
    refine ((hc x y (start P)).run at0 W _ (start_sim P hl W) ⟨by simp, fun i => ?_⟩).mono fun e w' hx => ?_
    · match i with
      | 0 => exact plain_refl (hagg x)
      | 1 => exact plain_refl (hagg y)
      | i + 2 => simp [Array.getD]; exact .junk _
    · obtain ⟨f', v, v', h', rfl, ⟨rfl, rfl⟩, st, hv⟩ := hx
      cases hv.int_inv
      refine ⟨rfl, grown_of st.keep.os st.keep.tape st.keep.output st.keep.size (fun r hr => st.keep.block r hr fun b o hb ho => by rw [start_norw P b o hb] at ho; cases ho) st.keep.drawn⟩
  exact key _
theorem ACalls.sort (L : SlLaysF0.n6 P ρ) (hl : laidOutB P = true) (aE : ∀ w, (isAgg (ρ.t 24)).run P w = .ok true w) (zE : ∀ w, (Go.sizeOf (ρ.t 24)).run P w = .ok k w) (hk : ∀ x, (enc x).length = k) (hp : ∀ x, ∀ v ∈ enc x, plain1 v = true) (cf : α → α → Int) (hO : SWO (ltOf cf))
    (hT : ∀ x y, (ltOf cf) x y = false → (ltOf cf) y x = false → x = y) {g : Nat} (hg : hasBody P g = true)
    (hc : ∀ x y (h : AH), ACalls P g #[.agg (enc x).toArray, .agg (enc y).toArray] h (fun v h' => v = .int .i64 (cf x y) ∧ h' = h)) {h : AH} {b es cap : Nat} {l : List α} (hb : h[b]? = some (.cells (flatV enc l) es true)) (hne : l ≠ []) (hsz : l.length < 4611686018427387904) :
    ACalls P (ρ.f 6) #[.slice (some ⟨b, 0, none⟩) l.length cap, .func (.func g) #[] #[]] h (fun v h' => v = undef ∧ h' = h.set b (.cells (flatV enc (l.mergeSort fun x y => !(ltOf cf) y x)) es true)) := by
  refine ⟨⟨_, _, rfl, rfl⟩, fun f w args' hs ha => ?_⟩
  obtain ⟨s', g', rfl, hs', hg'⟩ := arel_two ha
  have hgv : g' = .func (.func g) #[] #[] := by
    cases hg' with
    | func _ _ ys _ ds _ hx _ hc2 _ =>
      have e1 : ys = #[] := Array.eq_empty_of_size_eq_zero (by simpa using hx.symm)
      have e2 : ds = #[] := Array.eq_empty_of_size_eq_zero (by simpa using hc2.symm)
      rw [e1, e2]
  subst hgv
  rcases hs'.slice_inv with ⟨c', rfl, hbL, hcap⟩ | ⟨h0, _⟩
  case inr => exact absurd (List.length_eq_zero_iff.1 h0) hne
  obtain ⟨o', ho', hrel⟩ := hs.obj b _ hb rfl
  have hrel0 := hrel
  obtain ⟨c, elem, fr, rfl, q1, q2, q3, q4, q5, q6⟩ := hrel
  have hsize := flat_size hk l
  have hplain : ∀ (l : List α) (i : Nat), i < (flatV enc l).size → plain1 ((flatV enc l).getD i junk) = true := fun l i hi => by
    have hm : (flatV enc l).getD i junk ∈ l.flatMap enc := by
      have hi' : i < (l.flatMap enc).length := by simpa [flatV] using hi
      show (l.flatMap enc).toArray.getD i junk ∈ _
      rw [getD_lit]
      simp only [List.getD, List.getElem?_eq_getElem hi', Option.getD_some]
      exact List.getElem_mem hi'
    obtain ⟨x, _, hx⟩ := List.mem_flatMap.1 hm
    exact hp x _ hx
  have hcell : ∀ i, i < (flatV enc l).size → c[(f b).off + i]? = some ((flatV enc l).getD i junk) := fun i hi => by
    have h1 := plain1_inv (hplain l i hi) (q6 i hi).1
    have h2 : (f b).off + i < c.size := by rw [q1] at hi; omega
    rw [Array.getElem?_eq_getElem h2, ← h1]
    simp [Array.getD, h2]
  obtain ⟨hN, hfr⟩ := q4 rfl
  have hH : HoldsK enc k w (f b).blk ((f b).off + 0) l.toArray := by
    intro j hj
    rw [size_flatK] at hj
    have hj' : j < (flatV enc l).size := by rw [hsize]; simpa using hj
    rw [flatK_eq hk, Nat.add_zero]
    constructor
    · rw [cell_of_block ho', hcell j hj', getElem!_pos (flatV enc l) j hj']
      simp [Array.getD, hj']
    · simp only [World.frozen?, ho']
      exact hfr.at _ (by rw [q1] at hj'; omega)
  have hblk : (f b).blk < w.heap.size := (Array.getElem?_eq_some_iff.1 ho').1
  have eg : ∀ args w, (callFunc g args).run P w = .ok (.enter g args) w := run_callFunc hg
  have hcon := AnyQ.slices_SortFunc L k aE zE enc hk (fun x v hv => by have := plain1_one (hp x v hv); cases v <;> simp_all [Value.oneCell', plain1]) cf hO g #[] (f b).blk ((f b).off + 0) c' l.toArray w eg (cmpLays_of hl hp hc _ _ _ _) hH hblk (by simpa using hsz)
  have hsz2 : l.toArray.size = l.length := by simp
  rw [hsz2] at hcon
  refine hcon.mono fun e w' ⟨he, d', n, os, hpm, hsd, hw⟩ => ?_
  have hd : d' = (l.mergeSort fun x y => !(ltOf cf) y x).toArray := by
    have := sorted_unique_holds hO hT l.toArray d' (by simpa using hpm) (by simpa using hsd)
    rw [← Array.toArray_toList (xs := d'), this]
  subst hd
  have hlen : (l.mergeSort fun x y => !(ltOf cf) y x).length = l.length := List.length_mergeSort l
  generalize (l.mergeSort fun x y => !(ltOf cf) y x) = l2 at *
  have hsize2 := flat_size hk l2
  have hss : (flatV enc l2).size = (flatV enc l).size := by rw [hsize, hsize2, hlen]
  subst hw
  -- the row written
  have st1 : Step P f h w f (h.set b (.cells (flatV enc l2) es true)) (putRow id w (f b).blk ((f b).off + 0) (flatV enc l2)) := by
    have hw1 : (putRow id w (f b).blk ((f b).off + 0) (flatV enc l2)).heap[(f b).blk]? = some (.cells (putCells id ((f b).off + 0) (flatV enc l2) c) elem fr) := by
      show (w.heap.modify _ _)[_]? = _
      rw [Array.getElem?_modify, if_pos rfl, ho']; rfl
    refine Step.write hs hb rfl rfl ok_cells hw1 ⟨_, elem, fr, rfl, by rw [hss]; exact q1, q2, q3, fun _ => ⟨by simpa [putCells] using hN, by simpa [putCells] using hfr⟩, by simpa [putCells] using q5, fun i hi => ?_⟩ (fun r hr => ?_) rfl rfl rfl (by simp)
    · have h2 : (f b).off + i < c.size := by rw [hss, q1] at hi; omega
      have e : (putCells id ((f b).off + 0) (flatV enc l2) c).getD ((f b).off + i) junk = (flatV enc l2).getD i junk := by
        have h3 : (f b).off + i < (putCells id ((f b).off + 0) (flatV enc l2) c).size := by simpa [putCells] using h2
        rw [Array.getD_eq_getD_getElem?, Array.getElem?_eq_getElem h3]
        simp only [putCells, Array.getElem_mapIdx, Nat.add_zero, Option.getD_some]
        rw [if_pos (by omega)]
        have e5 : (f b).off + i - (f b).off = i := by omega
        rw [e5, getElem!_pos (flatV enc l2) i hi]
        simp [Array.getD, hi]
      rw [e]
      exact ⟨plain1_refl (hplain l2 i hi), plain1_one (hplain l2 i hi)⟩
    · show (w.heap.modify _ _)[_]? = _
      rw [Array.getElem?_modify, if_neg (fun e => hr e.symm)]
  refine ⟨f, undef, .tuple #[], _, he, ⟨rfl, rfl⟩, ?_, undef_rel⟩
  unfold sortWorldK
  have e6 : putRowK enc k (Sort.ahead w n) (f b).blk ((f b).off + 0) l2.toArray = Sort.ahead (putRow id w (f b).blk ((f b).off + 0) (flatV enc l2)) n := by
    unfold putRowK
    rw [flatK_eq hk, putRow_ahead]
  rw [e6]
  generalize putRow id w (f b).blk ((f b).off + 0) (flatV enc l2) = w1 at st1
  have hold : ∀ r, r < w1.heap.size → (grow (Sort.ahead w1 n) os).heap[r]? = w1.heap[r]? := fun r hr => by
    show (w1.heap ++ os)[r]? = _
    rw [Array.getElem?_append_left hr]
  refine st1.trans ⟨st1.sim.more hold, .refl _ _, Nat.le_refl _, ⟨rfl, rfl, rfl, ?_, fun r hr _ => hold r hr, ?_⟩, fun b o hb ho => .inr ⟨b, o, hb, ho, rfl⟩⟩
  · show w1.heap.size ≤ (w1.heap ++ os).size
    simp
  · show w1.drawn ≤ w1.drawn + n
    omega
theorem ACalls.sort0 (L : SlLaysF0.n6 P ρ) {h : AH} {fv : Value} : ACalls P (ρ.f 6) #[.slice none 0 0, fv] h (fun v h' => v = undef ∧ h' = h) := by
  refine ⟨⟨_, _, rfl, rfl⟩, fun f w args' hs ha => ?_⟩
  obtain ⟨s', g', rfl, hs', hg'⟩ := arel_two ha
  cases hs' with
  | nilSlice =>
    refine (AnyF.slices_SortFunc_none L none 0 g' w).mono fun e w' ⟨he, hw⟩ => ?_
    subst hw
    exact ⟨f, undef, .tuple #[], h, he, ⟨rfl, rfl⟩, Step.refl hs, undef_rel⟩
/-- the same, at a slice that has grown -/
theorem ACalls.sortO (L : SlLaysF0.n6 P ρ) (hl : laidOutB P = true) (aE : ∀ w, (isAgg (ρ.t 24)).run P w = .ok true w) (zE : ∀ w, (Go.sizeOf (ρ.t 24)).run P w = .ok k w) (hk : ∀ x, (enc x).length = k) (hp : ∀ x, ∀ v ∈ enc x, plain1 v = true) (cf : α → α → Int) (hO : SWO (ltOf cf))
    (hT : ∀ x y, (ltOf cf) x y = false → (ltOf cf) y x = false → x = y) {g : Nat} (hg : hasBody P g = true)
    (hc : ∀ x y (h : AH), ACalls P g #[.agg (enc x).toArray, .agg (enc y).toArray] h (fun v h' => v = .int .i64 (cf x y) ∧ h' = h)) {h : AH} {b es : Nat} {l : List α} (hb : h[b]? = some (outO enc es l)) (hsz : l.length < 4611686018427387904) :
    ACalls P (ρ.f 6) #[outV b l, .func (.func g) #[] #[]] h (fun v h' => v = undef ∧ h' = h.set b (outO enc es (l.mergeSort fun x y => !(ltOf cf) y x))) := by
  cases l with
  | nil =>
    refine (ACalls.sort0 L).mono fun v h' ⟨e1, e2⟩ => ⟨e1, ?_⟩
    rw [e2]
    simp only [List.mergeSort_nil]
    rw [set_same hb]
  | cons x l =>
    have hne : (x :: l).mergeSort (fun x y => !(ltOf cf) y x) ≠ [] := by
      intro e
      have := List.length_mergeSort (le := fun x y => !(ltOf cf) y x) (x :: l)
      rw [e] at this; simp at this
    rw [outV_ne (by simp), outO_ne hne]
    rw [outO_ne (by simp)] at hb
    exact ACalls.sort L hl aE zE hk hp cf hO hT hg hc hb (by simp) hsz
end
end Go.Am

set_option linter.unusedVariables false
set_option linter.unusedSimpArgs false
/- Places; bytes in their order. -/
namespace Go.Am
open Go
/-- more blocks behind -/
theorem pres_pre {h l l' : AH} (hp : Pre l l') : Pres (h ++ l) (h ++ l') := by
  intro b hb
  by_cases hl : b < h.length
  · rw [List.getElem?_append_left hl, List.getElem?_append_left hl]
  · rw [List.getElem?_append_right (by omega), List.getElem?_append_right (by omega)]
    exact hp.get _ (by simp at hb; omega)
/-! ### bytes in their order -/
def lexI : List UInt8 → List UInt8 → Int
  | [], [] => 0
  | [], _ :: _ => -1
  | _ :: _, [] => 1
  | x :: xs, y :: ys => if x = y then lexI xs ys else if x < y then -1 else 1
theorem cmp_lex : ∀ xs ys : List UInt8, Extern.BytealgCompare.cmp (bs xs) (bs ys) = lexI xs ys := by
  have key : ∀ (xs ys : List UInt8), (match (List.range (min xs.length ys.length)).find? (fun i => xs.getD i 0 != ys.getD i 0) with
      | some i => if xs.getD i 0 < ys.getD i 0 then (-1 : Int) else 1
      | none => if xs.length < ys.length then -1 else if ys.length < xs.length then 1 else 0) = lexI xs ys := by
    intro xs
    induction xs with
    | nil => intro ys; cases ys <;> simp [lexI]
    | cons x xs ih =>
      intro ys
      cases ys with
      | nil => simp [lexI]
      | cons y ys =>
        rw [show min (x :: xs).length (y :: ys).length = min xs.length ys.length + 1 by simp only [List.length_cons]; omega, List.range_succ_eq_map, List.find?_cons]
        by_cases hxy : x = y
        · subst hxy
          have e : ((x :: xs).getD 0 0 != (x :: ys).getD 0 0) = false := by simp
          rw [e]
          simp only [lexI, if_true]
          rw [← ih ys, List.find?_map]
          simp only [Function.comp_def, List.getD_cons_succ]
          cases (List.range (min xs.length ys.length)).find? (fun i => xs.getD i 0 != ys.getD i 0) with
          | none => simp
          | some i => simp
        · have e : ((x :: xs).getD 0 0 != (y :: ys).getD 0 0) = true := by simp [hxy]
          rw [e]
          simp [lexI, hxy]
  intro xs ys
  unfold Extern.BytealgCompare.cmp
  rw [size_bs, size_bs, ← key]
  have g : ∀ (l : List UInt8) (i : Nat), (bs l)[i]! = l.getD i 0 := by
    intro l i
    rw [getElem!_def, get_bs, List.getD_eq_getElem?_getD]
    cases l[i]? <;> rfl
  have e : (fun i => (bs xs)[i]! != (bs ys)[i]!) = fun i => xs.getD i 0 != ys.getD i 0 := funext fun i => by rw [g, g]
  rw [e]
  cases (List.range (min xs.length ys.length)).find? (fun i => xs.getD i 0 != ys.getD i 0) with
  | none => rfl
  | some i => simp only [g]
theorem cmpV_lex (xs ys : List UInt8) : cmpV (xs.map fun b => Value.int .u8 b.toNat).toArray (ys.map fun b => Value.int .u8 b.toNat).toArray = lexI xs ys := by
  have e : ∀ l : List UInt8, bytesV (l.map fun b => Value.int .u8 b.toNat).toArray = bs l := by
    intro l
    unfold bytesV bs
    congr 1
    rw [List.map_toArray, List.map_map]
    congr 1
    conv => rhs; rw [← List.map_id l]
    apply List.map_congr_left
    intro b _
    show (((b.toNat : Nat) : Int).toNat).toUInt8 = b
    simp
  unfold cmpV
  rw [e, e, cmp_lex]
/-- the number that bytes are -/
def numB (l : List UInt8) : Nat := l.foldl be 0
theorem foldl_be (l : List UInt8) : ∀ n : Nat, l.foldl be n = n * 256 ^ l.length + numB l := by
  unfold numB
  induction l with
  | nil => intro n; simp
  | cons x l ih =>
    intro n
    rw [List.foldl_cons, List.foldl_cons, ih, ih (be 0 x)]
    simp only [be, List.length_cons, Nat.pow_succ, Nat.mul_zero, Nat.zero_add]
    rw [Nat.add_mul, Nat.add_assoc, Nat.mul_comm 256 n, Nat.mul_assoc, Nat.mul_comm 256 (256 ^ l.length)]
theorem numB_cons (x : UInt8) (l : List UInt8) : numB (x :: l) = x.toNat * 256 ^ l.length + numB l := by
  show (x :: l).foldl be 0 = _
  rw [List.foldl_cons, foldl_be]
  simp [be]
theorem numB_lt (l : List UInt8) : numB l < 256 ^ l.length := by
  induction l with
  | nil => simp [numB]
  | cons x l ih =>
    rw [numB_cons, List.length_cons, Nat.pow_succ]
    have := x.toNat_lt
    have : x.toNat * 256 ^ l.length ≤ 255 * 256 ^ l.length := Nat.mul_le_mul_right _ (by omega)
    omega
def sgn (a b : Nat) : Int := if a < b then -1 else if b < a then 1 else 0
theorem lexI_num : ∀ {xs ys : List UInt8}, xs.length = ys.length → lexI xs ys = sgn (numB xs) (numB ys)
  | [], [], _ => rfl
  | x :: xs, y :: ys, h => by
    have hl : xs.length = ys.length := by simpa using h
    have ih := lexI_num hl
    have h1 := numB_lt xs
    have h2 := numB_lt ys
    rw [numB_cons, numB_cons, hl] at *
    unfold lexI
    by_cases hxy : x = y
    · subst hxy
      rw [if_pos rfl, ih]
      unfold sgn
      simp
    · rw [if_neg hxy]
      have hne : x.toNat ≠ y.toNat := fun e => hxy (UInt8.toNat_inj.1 e)
      unfold sgn
      by_cases hlt : x < y
      · rw [if_pos hlt]
        have h3 : x.toNat < y.toNat := UInt8.lt_iff_toNat_lt.1 hlt
        have h4 : (x.toNat + 1) * 256 ^ ys.length ≤ y.toNat * 256 ^ ys.length := Nat.mul_le_mul_right _ h3
        rw [Nat.add_mul] at h4
        rw [if_pos (by omega)]
      · rw [if_neg hlt]
        have h3 : y.toNat < x.toNat := by
          have : ¬ x.toNat < y.toNat := fun e => hlt (UInt8.lt_iff_toNat_lt.2 e)
          omega
        have h4 : (y.toNat + 1) * 256 ^ ys.length ≤ x.toNat * 256 ^ ys.length := Nat.mul_le_mul_right _ h3
        rw [Nat.add_mul] at h4
        rw [if_neg (by omega), if_pos (by omega)]
  | [], _ :: _, h => by simp at h
  | _ :: _, [], h => by simp at h
theorem numB_inj : ∀ {xs ys : List UInt8}, xs.length = ys.length → numB xs = numB ys → xs = ys
  | [], [], _, _ => rfl
  | x :: xs, y :: ys, h, e => by
    have hl : xs.length = ys.length := by simpa using h
    have h1 := numB_lt xs
    have h2 := numB_lt ys
    rw [numB_cons, numB_cons, hl] at e
    rw [hl] at h1
    have hx : x.toNat = y.toNat := by
      have a1 : (x.toNat * 256 ^ ys.length + numB xs) / 256 ^ ys.length = x.toNat := by
        rw [Nat.mul_comm, Nat.mul_add_div (Nat.pow_pos (by decide)), Nat.div_eq_of_lt h1]; rfl
      have a2 : (y.toNat * 256 ^ ys.length + numB ys) / 256 ^ ys.length = y.toNat := by
        rw [Nat.mul_comm, Nat.mul_add_div (Nat.pow_pos (by decide)), Nat.div_eq_of_lt h2]; rfl
      rw [← a1, e, a2]
    rw [UInt8.toNat_inj.1 hx, numB_inj hl (by rw [hx] at e; omega)]
  | [], _ :: _, h, _ => by simp at h
  | _ :: _, [], h, _ => by simp at h
theorem sgn_lt {a b : Nat} : (sgn a b < 0) = (a < b) := by
  unfold sgn; split <;> (try split) <;> simp <;> omega
theorem sgn_self (a : Nat) : sgn a a = 0 := by simp [sgn]
def addrN (a : Addr20) : Nat := numB a.toList
theorem addrN_inj {a b : Addr20} (h : addrN a = addrN b) : a = b := Vector.toList_inj.1 (numB_inj (by simp) h)
theorem cmpV_addr (a b : Addr20) : cmpV (encAddr a).toArray (encAddr b).toArray = sgn (addrN a) (addrN b) := by
  unfold encAddr
  rw [cmpV_lex, lexI_num (by simp)]; rfl
theorem bytes_addr (a : Addr20) : (encAddr a).toArray.all isByte = true := by
  simp [encAddr, isByte]
/-! ### places -/
structure Pl where
  addr : Addr20
  whole : Bool
  key : Word4
deriving DecidableEq
instance : Inhabited Pl := ⟨⟨Vector.replicate 20 0, false, Vector.replicate 4 0⟩⟩
def encPl (p : Pl) : List Value := encAddr p.addr ++ (Value.bool p.whole :: encWord p.key)
def keyPl (p : Pl) : Value := .agg (encPl p).toArray
/-- where a place stands -/
def Pl.rank (p : Pl) : Nat := (addrN p.addr * 2 + (if p.whole then 0 else 1)) * 2 ^ 256 + valW p.key
section
open Go.Proofs Go.Sort
theorem swo_rank {α : Type} (f : α → Nat) (hf : ∀ x y, f x = f y → x = y) : SWO (ltOf fun x y : α => sgn (f x) (f y)) ∧ ∀ x y, (ltOf fun x y : α => sgn (f x) (f y)) x y = false → (ltOf fun x y : α => sgn (f x) (f y)) y x = false → x = y := by
  have e : ∀ x y, (ltOf fun x y : α => sgn (f x) (f y)) x y = decide (f x < f y) := fun x y => by
    unfold ltOf; exact decide_eq_decide.2 (by rw [sgn_lt])
  refine ⟨⟨fun x => ?_, fun x y z h1 h2 => ?_, fun x y z h1 h2 => ?_⟩, fun x y h1 h2 => hf x y ?_⟩
  · rw [e]; simp
  · rw [e] at *; simp at *; omega
  · rw [e] at *; simp at *; omega
  · rw [e] at *; simp at *; omega
/-- sorted by a rank -/
theorem sorted_rank {α : Type} (f : α → Nat) (hf : ∀ x y, f x = f y → x = y) (l : List α) (hn : l.Nodup) : (l.mergeSort fun x y => !(ltOf fun x y : α => sgn (f x) (f y)) y x).Pairwise (fun x y => f x < f y) ∧ (l.mergeSort fun x y => !(ltOf fun x y : α => sgn (f x) (f y)) y x).Perm l := by
  have e : (fun x y : α => !(ltOf fun x y : α => sgn (f x) (f y)) y x) = fun x y => decide (f x ≤ f y) := by
    funext x y
    unfold ltOf
    rw [show decide (sgn (f y) (f x) < 0) = decide (f y < f x) from decide_eq_decide.2 (by rw [sgn_lt])]
    by_cases h : f y < f x
    · rw [decide_eq_true h, decide_eq_false (by omega)]; rfl
    · rw [decide_eq_false h, decide_eq_true (by omega)]; rfl
  rw [e]
  have hp := List.mergeSort_perm l (fun x y => decide (f x ≤ f y))
  have hs := List.pairwise_mergeSort (le := fun x y : α => decide (f x ≤ f y)) (fun a b c h1 h2 => by simp at *; omega) (fun a b => by simp; omega) l
  refine ⟨?_, hp⟩
  have hn2 := hp.nodup_iff.2 hn
  refine (hs.and hn2).imp fun {a b} ⟨h1, h2⟩ => ?_
  have : f a ≠ f b := fun h => h2 (hf _ _ h)
  simp at h1
  omega
end
end Go.Am

set_option linter.unusedVariables false
set_option linter.unusedSimpArgs false
/- Iterators: equations; what a map's range tells. -/
namespace Go.Am
open Go
section
variable {P : Program} {Y : YRel} {hb : AH} {ops : Array Oper} {Q : PostI} {rest : List Oper} {dst : Option Tmp} {ys : List Tmp} {a : Array Value} {h : AH} {st : Option Code} {op : Op} {ty : TypeId} {pos : String} {after : Array Edge}
def istep (P : Program) (Y : YRel) (ops : Array Oper) (Q : PostI) (rest : List Oper) (dst : Option Tmp) (ys : List Tmp) (a : Array Value) (h : AH) (st : Option Code) : Option ARes → Prop
  | some (.val v h1) => awlI P Y ops Q rest (ydrop ys dst) (aput a dst v) h1 st
  | some (.skip h1) => awlI P Y ops Q rest (ydrop ys dst) (aput a dst undef) h1 st
  | some (.enter F args) => ∃ R, ACalls P F args h R ∧ ∀ v h1, R v h1 → awlI P Y ops Q rest (ydrop ys dst) (aput a dst v) h1 st
  | some (.any S) => ∀ v h1, S v h1 → awlI P Y ops Q rest (ydrop ys dst) (aput a dst v) h1 st
  | none => False
def iact (P : Program) (Y : YRel) (ops : Array Oper) (Q : PostI) (rest : List Oper) (dst : Option Tmp) (ys : List Tmp) (a : Array Value) (h : AH) (st : Option Code) (r : Option ARes) : YAct → Prop
  | .no => istep P Y ops Q rest dst ys a h st r
  | .moved => awlI P Y ops Q rest (ymove ys a.size dst) (aput a dst junk) h st
  | .called args => st = none ∧ Y (args.map (aeval P a)) h fun st1 h1 => awlI P Y ops Q rest (ydrop ys dst) (aput a dst (.bool st1.isNone)) h1 st1
theorem awlI_nil : awlI P Y ops Q [] ys a h st = Q .normal ys a h st := rfl
theorem awlI_cons : awlI P Y ops Q (⟨dst, op, ty, pos, after, none⟩ :: rest) ys a h st = iact P Y ops Q rest dst ys a h st (aop P (aeval P a) h ⟨dst, op, ty, pos, after, none⟩) (yact ys op) := by
  rw [awlI]
  simp only [gval]
  unfold iact istep
  cases yact ys op <;> rfl
theorem iact_no {r : Option ARes} : iact P Y ops Q rest dst ys a h st r .no = istep P Y ops Q rest dst ys a h st r := rfl
theorem iact_moved {r : Option ARes} : iact P Y ops Q rest dst ys a h st r .moved = awlI P Y ops Q rest (ymove ys a.size dst) (aput a dst junk) h st := rfl
theorem iact_called {r : Option ARes} {args : List Operand} : iact P Y ops Q rest dst ys a h st r (.called args.toArray) = (st = none ∧ Y (args.map (aeval P a)).toArray h fun st1 h1 => awlI P Y ops Q rest (ydrop ys dst) (aput a dst (.bool st1.isNone)) h1 st1) := by
  simp only [iact, List.map_toArray]
theorem istep_val {v : Value} {h1 : AH} : istep P Y ops Q rest dst ys a h st (some (.val v h1)) = awlI P Y ops Q rest (ydrop ys dst) (aput a dst v) h1 st := rfl
theorem istep_skip {h1 : AH} : istep P Y ops Q rest dst ys a h st (some (.skip h1)) = awlI P Y ops Q rest (ydrop ys dst) (aput a dst undef) h1 st := rfl
theorem istep_any {S : Value → AH → Prop} : istep P Y ops Q rest dst ys a h st (some (.any S)) = ∀ v h1, S v h1 → awlI P Y ops Q rest (ydrop ys dst) (aput a dst v) h1 st := rfl
theorem ayI_skip : ayI P Y hb .skip Q ys a h st = Q .normal ys a h st := rfl
theorem ayI_region {id : Nat} {l : List Oper} : ayI P Y hb (.region id l.toArray false) Q ys a h st = awlI P Y l.toArray Q l ys a h st := rfl
theorem ayI_seq {x y : Code} : ayI P Y hb (.seq x y) Q ys a h st = ayI P Y hb x (thenI (ayI P Y hb y Q) Q) ys a h st := rfl
theorem ayI_block {id : Nat} {c : Code} : ayI P Y hb (.block id c) Q ys a h st = ayI P Y hb c (inBlockI id Q) ys a h st := rfl
theorem ayI_exit {id : Nat} : ayI P Y hb (.exit id) Q ys a h st = Q (.exit id) ys a h st := rfl
theorem ayI_ret : ayI P Y hb .ret Q ys a h st = Q .ret ys a h st := rfl
theorem ayI_loop {c : Code} : ayI P Y hb (.loop c) Q ys a h st = AWPI P Y hb (.loop c) Q ys a h st := rfl
def icond (P : Program) (Y : YRel) (hb : AH) (x y : Code) (Q : PostI) (ys : List Tmp) (a : Array Value) (h : AH) (st : Option Code) (v : Value) : Prop :=
  ∃ t, v = .bool t ∧ (t = true → ayI P Y hb x Q ys a h st) ∧ (t = false → ayI P Y hb y Q ys a h st)
theorem ayI_cond {c : Operand} {x y : Code} : ayI P Y hb (.cond c x y) Q ys a h st = icond P Y hb x y Q ys a h st (aeval P a c) := rfl
theorem icond_bool {x y : Code} {t : Bool} : icond P Y hb x y Q ys a h st (.bool t) = ((t = true → ayI P Y hb x Q ys a h st) ∧ (t = false → ayI P Y hb y Q ys a h st)) := by
  unfold icond
  apply propext
  constructor
  · rintro ⟨t', e, h1, h2⟩; cases e; exact ⟨h1, h2⟩
  · rintro ⟨h1, h2⟩; exact ⟨t, rfl, h1, h2⟩
theorem thenI_normal {next : List Tmp → Array Value → AH → Option Code → Prop} : thenI next Q .normal ys a h st = next ys a h st := rfl
theorem thenI_ret {next : List Tmp → Array Value → AH → Option Code → Prop} : thenI next Q .ret ys a h st = Q .ret ys a h st := rfl
theorem thenI_exit {next : List Tmp → Array Value → AH → Option Code → Prop} {id : Nat} : thenI next Q (.exit id) ys a h st = Q (.exit id) ys a h st := rfl
theorem inBlockI_normal {id : Nat} : inBlockI id Q .normal ys a h st = Q .normal ys a h st := rfl
theorem inBlockI_ret {id : Nat} : inBlockI id Q .ret ys a h st = Q .ret ys a h st := rfl
theorem inBlockI_exit {id id' : Nat} : inBlockI id Q (.exit id') ys a h st = if id' = id then Q .normal ys a h st else Q (.exit id') ys a h st := rfl
theorem postI_normal {Z : AH → Option Code → Prop} : postI Z .normal ys a h st = Z h st := rfl
theorem postI_ret {Z : AH → Option Code → Prop} : postI Z .ret ys a h st = Z h st := rfl
theorem ydrop_none : ydrop ys none = ys := rfl
theorem ydrop_nil {d : Tmp} : ydrop [] (some d) = [] := rfl
theorem ydrop_cons {t d : Tmp} : ydrop (t :: ys) (some d) = bif t == d then ydrop ys (some d) else t :: ydrop ys (some d) := by
  simp only [ydrop, List.filter_cons]
  cases t == d <;> rfl
theorem yact_tmp {t : Tmp} : yact ys (.move (.tmp t)) = bif ys.contains t then .moved else .no := by
  simp only [yact]; cases ys.contains t <;> rfl
theorem yact_call {t : Tmp} {args : Array Operand} {ts : Array TypeId} : yact ys (.call ⟨.value (.tmp t), args, ts⟩) = bif ys.contains t then .called args else .no := by
  simp only [yact]; cases ys.contains t <;> rfl
theorem contains_nil {t : Tmp} : ([] : List Tmp).contains t = false := rfl
theorem contains_cons {t d : Tmp} : (d :: ys).contains t = ((t == d) || ys.contains t) := rfl
end
section
variable {ys : List Tmp} {x y : Operand} {t u : TypeId}
theorem yact_alloc {e : TypeId} : yact ys (.alloc e) = .no := rfl
theorem yact_store : yact ys (.store t x y) = .no := rfl
theorem yact_load : yact ys (.load t x) = .no := rfl
theorem yact_range : yact ys (.range t x) = .no := rfl
theorem yact_next {b : Bool} : yact ys (.next x b) = .no := rfl
theorem yact_entry : yact ys (.entry x) = .no := rfl
theorem yact_extract {k : Nat} : yact ys (.extract x k) = .no := rfl
theorem yact_unOp {o : UnOp} : yact ys (.unOp o t x) = .no := rfl
theorem yact_binOp {o : BinOp} : yact ys (.binOp o t x y u) = .no := rfl
theorem yact_assign : yact ys (.assign x) = .no := rfl
theorem yact_len {args : Array Operand} {ts : Array TypeId} {b : Builtin} : yact ys (.call ⟨.builtin b, args, ts⟩) = .no := rfl
theorem yact_indexAddr : yact ys (.indexAddr t x y) = .no := rfl
end
attribute [go_sem ↓] awlI_nil awlI_cons iact_no iact_moved iact_called istep_val istep_skip istep_any ayI_skip ayI_region ayI_seq ayI_block ayI_exit ayI_ret ayI_loop ayI_cond thenI_normal thenI_ret thenI_exit inBlockI_normal inBlockI_ret inBlockI_exit postI_normal postI_ret
attribute [go_sem] icond_bool ydrop_none ydrop_nil ydrop_cons yact_tmp yact_call contains_nil contains_cons yact_alloc yact_store yact_load yact_range yact_next yact_entry yact_extract yact_unOp yact_binOp yact_assign yact_len yact_indexAddr ymove Bool.or_true Bool.true_or Bool.or_false Option.isNone_none
/-- less is known -/
inductive LessL : List Value → List Value → Prop
  | nil : LessL [] []
  | same (v : Value) {l l1 : List Value} (r : LessL l l1) : LessL (v :: l) (v :: l1)
  | junk (v : Value) {l l1 : List Value} (r : LessL l l1) : LessL (v :: l) (Am.junk :: l1)
theorem LessL.spec {l l1 : List Value} (h : LessL l l1) : l1.length = l.length ∧ ∀ i : Nat, l1.getD i Am.junk = l.getD i Am.junk ∨ l1.getD i Am.junk = Am.junk := by
  induction h with
  | nil => exact ⟨rfl, fun i => .inr (by simp)⟩
  | same v _ ih => exact ⟨by simp [ih.1], fun i => by cases i with
      | zero => exact .inl rfl
      | succ i => simpa using ih.2 i⟩
  | junk v _ ih => exact ⟨by simp [ih.1], fun i => by cases i with
      | zero => exact .inr rfl
      | succ i => simpa using ih.2 i⟩
theorem AWPI.lessL {P : Program} {Y : YRel} {hb : AH} {c : Code} {Q : PostI} {ys ys1 : List Tmp} {l l1 : List Value} {h : AH} {st : Option Code} (hy : ∀ t ∈ ys1, t ∈ ys) (hl : LessL l l1) (ha : AWPI P Y hb c Q ys1 l1.toArray h st) : AWPI P Y hb c Q ys l.toArray h st := by
  obtain ⟨h1, h2⟩ := hl.spec
  exact AWPI.less hy (by simpa using h1) (fun i => by rw [getD_lit, getD_lit]; exact h2 i) ha
theorem AWPI.loopI {P : Program} {Y : YRel} {hb : AH} {c : Code} {Q : PostI} {ys : List Tmp} {l : List Value} {h : AH} {ι : Type} (M : ι → Nat) (Fr : ι → List Value) (Ys : List Tmp) (Hp : ι → AH → Prop) (i0 : ι) (hI : Hp i0 h) (hys : ∀ t ∈ Ys, t ∈ ys) (hl : LessL l (Fr i0))
    (round : ∀ i H, Hp i H → ayI P Y hb c (thenI (fun ys1 a1 h1 st1 => ∃ j, M j < M i ∧ Hp j h1 ∧ (∀ t ∈ Ys, t ∈ ys1) ∧ st1 = none ∧ ∃ l1, a1 = l1.toArray ∧ LessL l1 (Fr j)) Q) Ys (Fr i).toArray H none) : AWPI P Y hb (.loop c) Q ys l.toArray h none := by
  refine AWPI.loop (fun n ys1 a1 h1 st1 => ∃ j, n = M j ∧ Hp j h1 ∧ (∀ t ∈ Ys, t ∈ ys1) ∧ st1 = none ∧ ∃ l1, a1 = l1.toArray ∧ LessL l1 (Fr j)) (n := M i0) ⟨i0, rfl, hI, hys, rfl, l, rfl, hl⟩ ?_
  rintro n ys1 a1 h1 st1 ⟨j, rfl, hj, hy, rfl, l1, rfl, hl1⟩
  refine AWPI.lessL hy hl1 (AWPI.mono (ayI_sound _ _ _ _ _ _ (round j h1 hj)) fun e ys a h st hq => ?_)
  cases e with
  | normal =>
    obtain ⟨j2, h2, h3⟩ := hq
    exact ⟨M j2, h2, j2, rfl, h3⟩
  | _ => exact hq
/-- a row without twins, of what stands in another one, is no longer -/
theorem nodup_len {α : Type} [DecidableEq α] : ∀ {l m : List α}, l.Nodup → (∀ x ∈ l, x ∈ m) → l.length ≤ m.length
  | [], _, _, _ => Nat.zero_le _
  | x :: l, m, hn, hs => by
    rw [List.nodup_cons] at hn
    have hx : x ∈ m := hs x (by simp)
    have h1 := nodup_len (l := l) (m := m.erase x) hn.2 fun y hy => (List.mem_erase_of_ne fun e => by subst e; exact hn.1 hy).2 (hs y (List.mem_cons_of_mem _ hy))
    have h2 := List.length_erase_of_mem hx
    have h3 := List.length_pos_of_mem hx
    simp only [List.length_cons]
    omega
theorem apost_keep {P : Program} {h0 : AH} {fn : Func} {R : Value → AH → Prop} {v : Value} {k : Nat} {o : AObj} (hr : fn.results = #[.tmp k]) (hv : VRen id (h0.length + 1) v v) (ho : ORen id (h0.length + 1) o o) (hR : R v (h0 ++ [o])) (l : List Value) (hl : l.getD k junk = v) : apost P h0 fn R .ret l.toArray (h0 ++ [o]) :=
  ⟨v, v, h0 ++ [o], by rw [aresults_tmp hr, getD_lit, hl], (Keeps.easeT (P := P) (l := [v]) (l1 := [v]) ho (.keep hv .nil)), hR⟩
/-! ### a map's range -/
theorem amRangeM {P : Program} {h : AH} {t k : TypeId} {e : TypeId} {b clock : Nat} {es : Array MapEntry} (ht : P.underlying t = some (.map k e)) (hb : h[b]? = some (.map k es clock)) : amRange P h t (.map (some b)) = some (.pointer (some ⟨h.length, 0, none⟩), h ++ [.miter (some b) clock #[] clock]) := by
  simp only [amRange, ht, hb]
theorem nodup_of_map {α β : Type} (f : α → β) : ∀ {l : List α}, (l.map f).Nodup → l.Nodup
  | [], _ => List.nodup_nil
  | x :: l, h => by
    simp only [List.map_cons, List.nodup_cons] at h
    exact List.nodup_cons.2 ⟨fun hx => h.1 (List.mem_map_of_mem hx), nodup_of_map f h.2⟩
/-- of these entries the range has told -/
def miterO (b clock : Nat) (pre : List MapEntry) : AObj := .miter (some b) clock (pre.map (·.born)).toArray clock
theorem amNextM {P : Program} {H : AH} {r b clock : Nat} {k : TypeId} {es : Array MapEntry} {pre : List MapEntry} (hr : H[r]? = some (miterO b clock pre)) (hb : H[b]? = some (.map k es clock)) (ok : MapOk P k es.toList clock) :
    amNext H (.pointer (some ⟨r, 0, none⟩)) = some (.any fun v h1 => ((leftOf es (pre.map (·.born)).toArray).size = 0 ∧ v = .tuple #[.bool false] ∧ h1 = H) ∨
      ∃ e ∈ (leftOf es (pre.map (·.born)).toArray).toList, v = .tuple #[.bool true, e.key, e.val] ∧ h1 = H.set r (.miter (some b) clock ((pre.map (·.born)).toArray.push e.born) clock)) := by
  have h1 : es.all (fun e => decide (e.born < clock)) = true := by
    rw [Array.all_eq_true']
    intro e he
    simpa using ok.old e (by simpa using he)
  simp only [amNext, hr, miterO, hb, h1, Nat.le_refl, decide_true, Bool.and_self, if_true]
theorem miter_push {b clock : Nat} {pre : List MapEntry} {e : MapEntry} : AObj.miter (some b) clock ((pre.map (·.born)).toArray.push e.born) clock = miterO b clock (pre ++ [e]) := by
  simp [miterO]
theorem left_mem {es : Array MapEntry} {pre : List MapEntry} {e : MapEntry} (he : e ∈ (leftOf es (pre.map (·.born)).toArray).toList) : e ∈ es.toList ∧ e.born ∉ pre.map (·.born) := by
  simp only [leftOf, Array.mem_toList_iff, Array.mem_filter] at he
  exact ⟨by simpa using he.1, by simpa using he.2⟩
theorem left_done {P : Program} {k : TypeId} {es : Array MapEntry} {clock : Nat} {pre : List MapEntry} (ok : MapOk P k es.toList clock) (hsub : ∀ e ∈ pre, e ∈ es.toList) (hn : (pre.map (·.born)).Nodup) (h0 : (leftOf es (pre.map (·.born)).toArray).size = 0) : pre.Perm es.toList := by
  have hall : ∀ e ∈ es.toList, e.born ∈ pre.map (·.born) := by
    intro e he
    by_cases hx : e.born ∈ pre.map (·.born)
    · exact hx
    · exfalso
      have : e ∈ leftOf es (pre.map (·.born)).toArray := by
        simp only [leftOf, Array.mem_filter]
        exact ⟨by simpa using he, by simpa using hx⟩
      have := Array.size_pos_of_mem this
      omega
  have hes : es.toList.Nodup := by
    exact nodup_of_map _ ok.born
  have hpre : pre.Nodup := nodup_of_map _ hn
  refine (List.perm_ext_iff_of_nodup hpre hes).2 fun e => ⟨hsub e, fun he => ?_⟩
  obtain ⟨e', h1, h2⟩ := List.mem_map.1 (hall e he)
  have h3 := hsub e' h1
  obtain ⟨i, hi, rfl⟩ := List.getElem_of_mem he
  obtain ⟨j, hj, hje⟩ := List.getElem_of_mem h3
  have hb := List.pairwise_iff_getElem.1 (List.nodup_iff_pairwise_ne.1 ok.born)
  by_cases hij : i = j
  · subst hij; rw [hje]; exact h1
  · exfalso
    have hne : ∀ i j (hi : i < es.toList.length) (hj : j < es.toList.length), i < j → (es.toList[i]).born ≠ (es.toList[j]).born := fun i j hi hj hlt => by
      have := hb i j (by simpa using hi) (by simpa using hj) hlt
      simpa using this
    rw [← hje] at h2
    rcases Nat.lt_or_gt_of_ne hij with hlt | hlt
    · exact hne i j hi hj hlt h2.symm
    · exact hne j i hj hi hlt h2
theorem entryOfM {H : AH} {r b clock : Nat} {k : TypeId} {es : Array MapEntry} {pre : List MapEntry} {P : Program} {e : MapEntry} (hr : H[r]? = some (miterO b clock (pre ++ [e]))) (hb : H[b]? = some (.map k es clock)) (ok : MapOk P k es.toList clock) (he : e ∈ es.toList) :
    amEntryOf H (.pointer (some ⟨r, 0, none⟩)) = some (.tuple #[e.key, e.val]) := by
  have hback : ((pre ++ [e]).map (·.born)).toArray.back? = some e.born := by simp
  have hfind : es.find? (fun x => x.born == e.born) = some e := by
    obtain ⟨l⟩ := es
    simp only [List.find?_toArray]
    have hn := ok.born
    simp only at hn he
    clear hb ok hr hback
    induction l with
    | nil => simp at he
    | cons x l ih =>
      simp only [List.map_cons, List.nodup_cons] at hn
      rcases List.mem_cons.1 he with rfl | he
      · simp
      · have hne : x.born ≠ e.born := fun h => hn.1 (h ▸ List.mem_map_of_mem he)
        rw [List.find?_cons]
        have : (x.born == e.born) = false := by simpa using hne
        rw [this]
        exact ih he hn.2
  simp only [amEntryOf, hr, miterO, hb, hback, if_true, hfind, Option.map_some]
/-- a round, walked -/
theorem roundY_of_ay {P : Program} {a : Array Value} {ps : Array Tmp} {assign body : Code} {args : Array Value} {h : AH} {K : Option Code → AH → Prop} (hs : args.size = ps.size)
    (ha : ay P h assign (thenA (ay P h body (roundQ P h K)) fun _ _ _ => False) ((ps.zip args).foldl (fun t (p, v) => t.setIfInBounds p v) a) h) : roundY P a ps assign body args h K :=
  ⟨hs, AWP.mono (ay_sound _ _ _ _ ha) (thenA_mono fun a h hx => ay_sound _ _ _ _ hx)⟩
theorem fold1 {p : Tmp} {v : Value} {l : List Value} : ((#[p] : Array Tmp).zip #[v]).foldl (fun t (p, v) => t.setIfInBounds p v) l.toArray = (l.set p v).toArray := by simp
theorem fold2 {p q : Tmp} {v w : Value} {l : List Value} : ((#[p, q] : Array Tmp).zip #[v, w]).foldl (fun t (p, v) => t.setIfInBounds p v) l.toArray = ((l.set p v).set q w).toArray := by simp
theorem ay_range {P : Program} {h0 : AH} {g : Operand} {ps : Array Tmp} {asg c : Code} {Q : Exit → Array Value → AH → Prop} {a : Array Value} {h : AH} : ay P h0 (.rangeFunc g ps asg c) Q a h = AWP P h0 (.rangeFunc g ps asg c) Q a h := rfl
theorem roundQ_normal {P : Program} {h h2 : AH} {K : Option Code → AH → Prop} {a : Array Value} (hk : K none h2) : roundQ P h K .normal a h2 := ⟨h2, Eases.refl, hk⟩
attribute [go_sem ↓] ay_range
end Go.Am

set_option linter.unusedVariables false
set_option linter.unusedSimpArgs false
/- Rising rows of places; maps that are sets. -/
namespace Go.Am
open Go
/-! ### sets -/
def memF (L : List Pl) : Pl → Option Unit := fun y => if y ∈ L then some () else none
def encUn (_ : Unit) : Value := .agg #[]
abbrev SMap (P : Program) (k : TypeId) (es : Array MapEntry) (clk : Nat) (L : List Pl) := MFun P k keyPl encUn es clk (memF L)
theorem MFun.ren' {P : Program} {k : TypeId} {V : Type} {encV : V → Value} {es : Array MapEntry} {clk : Nat} {f : Pl → Option V} {σ : Nat → Nat} {L : Nat} (hv : ∀ v, Tree (encV v)) (hm : MFun P k keyPl encV es clk f) : ORen σ L (.map k es clk) (.map k es clk) :=
  ⟨es, rfl, rfl, fun i e he => ⟨e, he, rfl, rfl, by
    obtain ⟨v, h⟩ := hm.vals e (by have := Array.mem_of_getElem? he; simpa using this)
    rw [h]; exact (hv v).ren⟩⟩
theorem tree_encUn (u : Unit) : Tree (encUn u) := .agg _ fun i => by simp; exact .junk
theorem SMap.ren {P : Program} {k : TypeId} {es : Array MapEntry} {clk : Nat} {M : List Pl} {σ : Nat → Nat} {L : Nat} (hm : SMap P k es clk M) : ORen σ L (.map k es clk) (.map k es clk) := MFun.ren' tree_encUn hm
/-! ### places, made -/
theorem blit_mid (l : List Value) : ∀ (a b c : List Value), b.length = l.length → blit (a ++ (b ++ c)).toArray a.length l = (a ++ (l ++ c)).toArray := by
  induction l with
  | nil => intro a b c h; rw [List.length_eq_zero_iff.1 h]; rfl
  | cons v l ih =>
    intro a b c h
    match b, h with
    | x :: b, h =>
      rw [blit]
      have e : (a ++ (x :: b ++ c)).toArray.setIfInBounds a.length v = ((a ++ [v]) ++ (b ++ c)).toArray := by
        rw [List.setIfInBounds_toArray]
        congr 1
        rw [List.set_append_right _ _ (Nat.le_refl _), Nat.sub_self]
        simp
      rw [e]
      have := ih (a ++ [v]) b c (by simpa using h)
      rw [List.length_append] at this
      rw [show a.length + 1 = a.length + [v].length from rfl, this]
      simp
end Go.Am

set_option linter.unusedSimpArgs false
set_option linter.unusedVariables false
/- more at the end of what has grown, opaque -/
namespace Go.Am
open Go Go.Proofs
theorem mkApp_outs {α : Type} {enc : α → List Value} {H : AH} {b m by_ : Nat} {g : Bool} {l l2 : List α} (hb : H[b]? = some (outO enc m l)) (hm : ∀ x, (enc x).length = m) (hbd : (2 * (l.length + l2.length) + 192) * by_ ≤ 2 ^ 48 ∧ l.length + l2.length < 2 ^ 62) :
    ∃ b' H', mkApp H (outV b l) (some (g, m, by_)) (some (l2.length, flatV enc l2)) = some (outV b' (l ++ l2), H') ∧ H'[b']? = some (outO enc m (l ++ l2)) ∧ (∀ i, i ≠ b → i < H.length → H'[i]? = H[i]?) ∧ H.length ≤ H'.length ∧ (b' = b ∨ b' = H.length) := by
  cases l2 with
  | nil =>
    refine ⟨b, H, ?_, by rw [List.append_nil]; exact hb, fun _ _ _ => rfl, Nat.le_refl _, .inl rfl⟩
    rw [List.append_nil]
    cases l with
    | nil => rfl
    | cons x l => simp [outV, mkApp]
  | cons y l2 =>
    refine ⟨H.length, _, by rw [mkApp_out hb hm (by simp) hbd, outV_ne (by simp), List.length_append], ?_, fun i hi hl => ?_, by simp, .inr rfl⟩
    · rw [List.getElem?_append_right (by simp)]
      simp only [List.length_set, Nat.sub_self, List.getElem?_cons_zero]
      rw [outO_ne (by simp), flatV_append]
    · rw [List.getElem?_append_left (by simpa using hl), List.getElem?_set_ne (fun e => hi e.symm)]
theorem AWP.seqA {P : Program} {h0 : AH} {x y : Code} {Q : Exit → Array Value → AH → Prop} {a : Array Value} {h : AH} (ha : ay P h0 x (thenA (AWP P h0 y Q) Q) a h) : AWP P h0 (.seq x y) Q a h := AWP.seq (ay_sound x _ _ _ ha)
end Go.Am

