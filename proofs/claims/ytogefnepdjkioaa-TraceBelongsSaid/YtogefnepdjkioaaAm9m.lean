import Derived.Test.YtogefnepdjkioaaAm9
import Derived.MapKept
set_option linter.unusedVariables false
set_option linter.unusedSimpArgs false
/- Maps whose keys are rows of bools, numbers and strings. -/
namespace Go.Am
open Go

def sameKey (a b : Value) : Bool := Instr.sameBits 10000 a b

theorem lit_same {P : Program} {t : TypeId} {a b : Value} (ha : litCell P t a = true) (hb : litCell P t b = true) (m : Nat) : Instr.sameBits m a b = true ↔ a = b := by
  unfold litCell at ha hb
  cases hu : P.underlying t with
  | none => simp [hu] at ha
  | some d =>
    rw [hu] at ha hb
    cases d <;> cases a <;> simp at ha <;> cases b <;> simp at hb
    · simp [Instr.sameBits]
    · simp [Instr.sameBits]
    · rename_i x y
      simp only [Instr.sameBits, Value.string.injEq]
      constructor
      · intro h
        have : (x.data == y.data) = true := h
        exact ByteArray.ext (by simpa using this)
      · rintro rfl
        show (x.data == x.data) = true
        simp

theorem lits_same {P : Program} (m : Nat) : ∀ {ts : List TypeId} {xs ys : List Value}, litCells P ts xs = true → litCells P ts ys = true → ((xs.zip ys).all (fun (x, y) => Instr.sameBits m x y) = true ↔ xs = ys)
  | [], [], [], _, _ => by simp
  | t :: ts, x :: xs, y :: ys, h, k => by
    simp only [litCells, Bool.and_eq_true] at h k
    simp only [List.zip_cons_cons, List.all_cons, Bool.and_eq_true, List.cons.injEq]
    rw [lit_same h.1 k.1 m, lits_same m h.2 k.2]
  | [], _ :: _, _, h, _ => by simp [litCells] at h
  | [], [], _ :: _, _, h => by simp [litCells] at h
  | _ :: _, [], _, h, _ => by simp [litCells] at h
  | _ :: _, _ :: _, [], _, h => by simp [litCells] at h

theorem sameKey_iff {P : Program} {k : TypeId} {a b : Value} (ha : keyed P k a = true) (hb : keyed P k b = true) : sameKey a b = true ↔ a = b := by
  unfold keyed at ha hb
  cases hu : P.underlying k with
  | none => simp [hu] at ha
  | some d =>
    rw [hu] at ha hb
    have agg : ∀ {xs ys : Array Value} {ts : List TypeId}, litCells P ts xs.toList = true → litCells P ts ys.toList = true → (sameKey (.agg xs) (.agg ys) = true ↔ Value.agg xs = .agg ys) := by
      intro xs ys ts h1 h2
      have hsz : (xs.size == ys.size) = true := by
        have := litCells_length h1; have := litCells_length h2; simp at *; omega
      have e : sameKey (.agg xs) (.agg ys) = (xs.size == ys.size && (xs.toList.zip ys.toList).all fun (x, y) => Instr.sameBits 9999 x y) := rfl
      rw [e, hsz, Bool.true_and, lits_same 9999 h1 h2]
      constructor
      · intro h; congr 1; exact Array.ext' h
      · intro h; cases h; rfl
    have plain : litCell P k a = true → litCell P k b = true → (sameKey a b = true ↔ a = b) := fun h1 h2 => lit_same h1 h2 10000
    cases d with
    | struct fs =>
      cases a <;> simp at ha; cases b <;> simp at hb
      cases hf : flat P 8 k with
      | none => simp [hf] at ha
      | some ts => simp only [hf] at ha hb; exact agg ha hb
    | array n e =>
      cases a <;> simp at ha; cases b <;> simp at hb
      cases hf : flat P 8 k with
      | none => simp [hf] at ha
      | some ts => simp only [hf] at ha hb; exact agg ha hb
    | _ => exact plain ha hb

theorem litCell_plain {P : Program} {t : TypeId} {v : Value} (h : litCell P t v = true) : plain1 v = true := by
  unfold litCell at h
  cases hu : P.underlying t with
  | none => simp [hu] at h
  | some d => rw [hu] at h; cases d <;> cases v <;> simp at h <;> rfl

theorem litCells_plain {P : Program} : ∀ {ts : List TypeId} {vs : List Value}, litCells P ts vs = true → vs.all plain1 = true
  | [], [], _ => rfl
  | t :: ts, v :: vs, h => by
    simp only [litCells, Bool.and_eq_true] at h
    simp [litCell_plain h.1, litCells_plain h.2]
  | [], _ :: _, h => by simp [litCells] at h
  | _ :: _, [], h => by simp [litCells] at h

theorem keyed_plain {P : Program} {k : TypeId} {v : Value} (h : keyed P k v = true) : plainB v = true := by
  have one : plain1 v = true → plainB v = true := fun h => by cases v <;> simp_all [plain1, plainB]
  unfold keyed at h
  split at h
  · split at h
    · have := litCells_plain h; show Array.all _ plain1 = true; rw [← Array.all_toList]; exact this
    · cases h
  · split at h
    · have := litCells_plain h; show Array.all _ plain1 = true; rw [← Array.all_toList]; exact this
    · cases h
  · cases h
  · cases h
  · exact one (litCell_plain h)
  · cases h

/-- the first entry of a key, and its place -/
def findK (key : Value) : List MapEntry → Nat → Option (Nat × MapEntry)
  | [], _ => none
  | e :: es, i => if sameKey e.key key then some (i, e) else findK key es (i + 1)

theorem findK_none {P : Program} {k : TypeId} {key : Value} (hk : keyed P k key = true) : ∀ (es : List MapEntry) (i : Nat), (∀ e ∈ es, keyed P k e.key = true) → (findK key es i = none ↔ ∀ e ∈ es, e.key ≠ key) := by
  intro es
  induction es with
  | nil => intro i _; simp [findK]
  | cons e es ih =>
    intro i hall
    have he := hall e (List.mem_cons_self ..)
    unfold findK
    by_cases h : e.key = key
    · rw [if_pos ((sameKey_iff he hk).2 h)]
      simp [h]
    · rw [if_neg (fun x => h ((sameKey_iff he hk).1 x)), ih (i + 1) fun x hx => hall x (List.mem_cons_of_mem _ hx)]
      simp [h]

theorem findK_some {P : Program} {k : TypeId} {key : Value} (hk : keyed P k key = true) : ∀ (es : List MapEntry) (i : Nat) {j : Nat} {x : MapEntry}, (∀ e ∈ es, keyed P k e.key = true) → findK key es i = some (j, x) → i ≤ j ∧ es[j - i]? = some x ∧ x.key = key := by
  intro es
  induction es with
  | nil => intro i j x _ h; simp [findK] at h
  | cons e es ih =>
    intro i j x hall h
    have he := hall e (List.mem_cons_self ..)
    unfold findK at h
    split at h
    · rename_i hs
      simp only [Option.some.injEq, Prod.mk.injEq] at h
      obtain ⟨rfl, rfl⟩ := h
      exact ⟨Nat.le_refl _, by simp, (sameKey_iff he hk).1 hs⟩
    · obtain ⟨h1, h2, h3⟩ := ih (i + 1) (fun x hx => hall x (List.mem_cons_of_mem _ hx)) h
      refine ⟨by omega, ?_, h3⟩
      have : j - i = (j - (i + 1)) + 1 := by omega
      rw [this]
      simpa using h2

/-- what the world's map is, out of the abstract one -/
theorem Sim.mapRel {P : Program} {f : Emb} {h : AH} {w : World} (hs : Sim P f h w) {b : Nat} {k : TypeId} {es : Array MapEntry} {clock : Nat} (hb : h[b]? = some (.map k es clock)) :
    ∃ es' : Array MapEntry, w.heap[(f b).blk]? = some (.map es' clock) ∧ es.size = es'.size ∧ (∀ (i : Nat) (e : MapEntry), es[i]? = some e → ∃ e' : MapEntry, es'[i]? = some e' ∧ EntryRel f h.length e e') ∧
      MapOk P k es.toList clock ∧ es.toList.map (·.key) = es'.toList.map (·.key) ∧ es.toList.map (·.born) = es'.toList.map (·.born) := by
  obtain ⟨o', h1, es', rfl, h2, h3⟩ := hs.obj b _ hb rfl
  refine ⟨es', h1, h2, h3, hs.ok b _ hb, ?_, ?_⟩
  · apply List.ext_getElem (by simpa using h2)
    intro i g1 g2
    have hi : i < es.size := by simpa using g1
    obtain ⟨e', k1, k2, k3, k4⟩ := h3 i es[i] (by simp [hi])
    have hi' : i < es'.size := by omega
    rw [Array.getElem?_eq_getElem hi'] at k1
    cases k1
    simp [k2]
  · apply List.ext_getElem (by simpa using h2)
    intro i g1 g2
    have hi : i < es.size := by simpa using g1
    obtain ⟨e', k1, k2, k3, k4⟩ := h3 i es[i] (by simp [hi])
    have hi' : i < es'.size := by omega
    rw [Array.getElem?_eq_getElem hi'] at k1
    cases k1
    simp [k3]

theorem MapOk.keys' {P : Program} {k : TypeId} {es es' : List MapEntry} {clock : Nat} (m : MapOk P k es clock) (h : es.map (·.key) = es'.map (·.key)) : ∀ e ∈ es', keyed P k e.key = true := by
  intro e he
  have : e.key ∈ es.map (·.key) := by rw [h]; exact List.mem_map_of_mem he
  obtain ⟨x, hx, hx2⟩ := List.mem_map.1 this
  rw [← hx2]; exact m.keys x hx

/-- the world finds what is found -/
theorem find_run {P : Program} {k : TypeId} {es es' : List MapEntry} {clock : Nat} (hl : laidOutB P = true) (m : MapOk P k es clock) (hkeys : es.map (·.key) = es'.map (·.key)) {key : Value} (hk : keyed P k key = true) (w : World) :
    match findK key es 0 with
    | none => (Instr.findKey k key es').run P w = .ok none w
    | some (j, x) => ∃ e', es'[j]? = some e' ∧ e'.key = key ∧ es[j]? = some x ∧ x.key = key ∧ (Instr.findKey k key es').run P w = .ok (some (j, e'.val)) w := by
  have K := keyed_law hl m.ty
  obtain ⟨l, hkl⟩ := keyOf_keyed m.ty hk
  have hall := m.keys' hkeys
  have hlen : es.length = es'.length := by have := congrArg List.length hkeys; simpa using this
  have hat : ∀ (i : Nat) (e e' : MapEntry), es[i]? = some e → es'[i]? = some e' → e.key = e'.key := by
    intro i e e' h1 h2
    have := congrArg (·[i]?) hkeys
    simpa [List.getElem?_map, h1, h2] using this
  rcases K.find w hkl es' (fun e he => keyOf_keyed m.ty (hall e he)) with ⟨h1, h2⟩ | ⟨j, e', h1, h2, h3⟩
  · have hn : findK key es 0 = none := by
      rw [findK_none hk es 0 m.keys]
      intro e he e2
      obtain ⟨i, hi⟩ := List.mem_iff_getElem?.1 he
      have hlt : i < es'.length := by rw [← hlen]; exact (List.getElem?_eq_some_iff.1 hi).1
      exact h2 es'[i] (List.getElem_mem hlt) (by rw [← hat i e es'[i] hi (List.getElem?_eq_getElem hlt)]; exact e2)
    rw [hn]
    exact h1
  · have hlt : j < es.length := by rw [hlen]; exact (List.getElem?_eq_some_iff.1 h2).1
    have hje := List.getElem?_eq_getElem hlt
    have hkj : es[j].key = key := by rw [hat j _ e' hje h2]; exact h3
    cases hf : findK key es 0 with
    | none => exact absurd hkj ((findK_none hk es 0 m.keys).1 hf es[j] (List.getElem_mem hlt))
    | some p =>
      obtain ⟨j0, x⟩ := p
      obtain ⟨_, g1, g2⟩ := findK_some hk es 0 m.keys hf
      simp only [Nat.sub_zero] at g1
      have hj0 : j0 < es.length := (List.getElem?_eq_some_iff.1 g1).1
      have : j0 = j := by
        have hnd := m.apart
        have hge : es[j0] = x := by rw [List.getElem?_eq_getElem hj0] at g1; exact Option.some.inj g1
        rcases Nat.lt_trichotomy j0 j with h | h | h
        · exact absurd (by rw [List.getElem_map, List.getElem_map, hge, g2, hkj]) (List.pairwise_iff_getElem.1 hnd j0 j (by simpa using hj0) (by simpa using hlt) h)
        · exact h
        · exact absurd (by rw [List.getElem_map, List.getElem_map, hge, g2, hkj]) (List.pairwise_iff_getElem.1 hnd j j0 (by simpa using hlt) (by simpa using hj0) h)
      subst this
      exact ⟨e', h2, h3, g1, g2, h1⟩

def lookRes (ok : Bool) (v : Value) (b : Bool) : Value := if ok then .tuple #[v, .bool b] else v

/-- what a key holds -/
def lookK (ok : Bool) (z key : Value) (es : List MapEntry) : Value :=
  match findK key es 0 with
  | some (_, x) => lookRes ok x.val true
  | none => lookRes ok z false

theorem findK_append {key : Value} : ∀ (es es2 : List MapEntry) (i : Nat), findK key (es ++ es2) i = match findK key es i with | some p => some p | none => findK key es2 (i + es.length)
  | [], es2, i => by simp [findK]
  | e :: es, es2, i => by
    simp only [List.cons_append, findK, List.length_cons]
    split
    · rfl
    · rw [findK_append es es2 (i + 1)]
      rw [show i + 1 + es.length = i + (es.length + 1) by omega]

theorem findK_modify {P : Program} {k : TypeId} {key key2 : Value} (hk : keyed P k key = true) (hk2 : keyed P k key2 = true) {g : MapEntry → MapEntry} (hg : ∀ e, (g e).key = key) : ∀ (es : List MapEntry) (i : Nat) {j : Nat} {x : MapEntry}, (∀ e ∈ es, keyed P k e.key = true) → findK key es i = some (j, x) →
    findK key2 (es.modify (j - i) g) i = if sameKey key key2 = true then some (j, g x) else findK key2 es i := by
  intro es
  induction es with
  | nil => intro i j x _ h; simp [findK] at h
  | cons e es ih =>
    intro i j x hall h
    have he := hall e (List.mem_cons_self ..)
    unfold findK at h
    split at h
    · rename_i hs
      simp only [Option.some.injEq, Prod.mk.injEq] at h
      obtain ⟨rfl, rfl⟩ := h
      have hek := (sameKey_iff he hk).1 hs
      rw [Nat.sub_self, List.modify_zero_cons]
      unfold findK
      rw [hg]
      by_cases hy : sameKey key key2 = true
      · rw [if_pos hy, if_pos hy]
      · rw [if_neg hy, if_neg hy, hek, if_neg hy]
    · rename_i hs
      obtain ⟨h1, _, _⟩ := findK_some hk es (i + 1) (fun x hx => hall x (List.mem_cons_of_mem _ hx)) h
      have hj : j - i = (j - (i + 1)) + 1 := by omega
      rw [hj, List.modify_succ_cons]
      have := ih (i + 1) (fun x hx => hall x (List.mem_cons_of_mem _ hx)) h
      simp only [findK]
      rw [this]
      by_cases hy : sameKey key key2 = true
      · rw [if_pos hy]
        have := (sameKey_iff hk hk2).1 hy
        subst this
        rw [if_neg hs, if_pos hy]
      · simp only [hy]; rfl

/-- the zero of a type -/
def zeroOf (P : Program) (t : TypeId) : Option Value :=
  match P.info? t with
  | some i => match i.zero with
    | some z => if plainB z then some z else none
    | none => none
  | none => none

theorem zeroOf_run {P : Program} {t : TypeId} {z : Value} (h : zeroOf P t = some z) (w : World) : (zeroValue t).run P w = .ok z w ∧ plainB z = true := by
  unfold zeroOf at h
  split at h
  · rename_i i hi
    split at h
    · rename_i z0 hz
      split at h
      · rename_i hp; cases h; exact ⟨run_zeroValue hi hz w, hp⟩
      · cases h
    · cases h
  · cases h

def amLookup (P : Program) (h : AH) (t : TypeId) (m key : Value) (ok : Bool) : Option Value :=
  match P.underlying t with
  | some (.map k e) => match zeroOf P e with
    | some z => if keyed P k key = true then (match m with
      | .map none => if keyTy P k then some (lookRes ok z false) else none
      | .map (some b) => match h[b]? with
        | some (.map k' es _) => if k' = k then (match findK key es.toList 0 with
          | some (_, x) => some (lookRes ok x.val true)
          | none => some (lookRes ok z false)) else none
        | _ => none
      | _ => none) else none
    | none => none
  | _ => none

theorem lookRes_rel {f : Emb} {L : Nat} {v v' : Value} (h : VRel f L v v') (ok b : Bool) : VRel f L (lookRes ok v b) (if ok then .tuple #[v', .bool b] else v') := by
  unfold lookRes
  cases ok
  · exact h
  · refine .tuple _ _ rfl fun i => ?_
    match i with
    | 0 => exact h
    | 1 => exact .bool b
    | i + 2 => simp [Array.getD]; exact .junk _

theorem sound_lookup {P : Program} {f : Emb} {h : AH} {w : World} (hs : Sim P f h w) {t : TypeId} {m m' key key' : Value} (hm : VRel f h.length m m') (hkr : VRel f h.length key key') {ok : Bool} {r : Value} (ha : amLookup P h t m key ok = some r) :
    ∃ r', (Instr.lookup t m' key' ok).run P w = .ok r' w ∧ VRel f h.length r r' := by
  unfold amLookup at ha
  split at ha
  case h_2 => cases ha
  rename_i k e hu
  split at ha
  case h_2 => cases ha
  rename_i z hz
  obtain ⟨hz1, hz2⟩ := zeroOf_run hz w
  split at ha
  case isFalse => cases ha
  rename_i hk
  cases plain_inv (keyed_plain hk) hkr
  split at ha
  · split at ha
    case isFalse => cases ha
    rename_i hty
    cases ha
    have : m' = .map none := plain_inv rfl hm
    subst this
    obtain ⟨l, hkl⟩ := keyOf_keyed hty hk
    have K := keyed_law hs.laid hty
    have hf := K.find w hkl [] (by simp)
    have hf' : (Instr.findKey k key []).run P w = .ok none w := by
      rcases hf with ⟨h1, _⟩ | ⟨j, e0, _, h2, _⟩
      · exact h1
      · simp at h2
    refine ⟨_, ?_, lookRes_rel (plain_refl hz2) ok false⟩
    simp only [Instr.lookup, Sem.run_bind, run_underlying hu, Result.andThen_ok, Sem.run_pure, K.check w _ hkl, hf', hz1]
  · rename_i b
    obtain ⟨rfl, hbL⟩ := hm.map_inv
    split at ha
    case h_2 => cases ha
    rename_i k' es clock hb
    split at ha
    case isFalse => cases ha
    rename_i hkk
    subst hkk
    obtain ⟨es', g1, g2, g3, g4, g5, g6⟩ := hs.mapRel hb
    obtain ⟨l, hkl⟩ := keyOf_keyed g4.ty hk
    have K := keyed_law hs.laid g4.ty
    have hf := find_run hs.laid g4 g5 hk w
    split at ha
    · rename_i j x hx
      cases ha
      rw [hx] at hf
      obtain ⟨e', q1, q2, q3, q4, q5⟩ := hf
      have q3' : es[j]? = some x := by simpa using q3
      obtain ⟨e2, p1, p2, p3, p4⟩ := g3 j x q3'
      have : e2 = e' := by have q1' : es'[j]? = some e' := by simpa using q1
                           rw [q1'] at p1; cases p1; rfl
      subst this
      refine ⟨_, ?_, lookRes_rel p4 ok true⟩
      simp only [Instr.lookup, Sem.run_bind, run_underlying hu, Result.andThen_ok, Sem.run_pure, run_getObj_map g1, K.check w _ hkl, q5]
    · rename_i hx
      cases ha
      rw [hx] at hf
      refine ⟨_, ?_, lookRes_rel (plain_refl hz2) ok false⟩
      simp only [Instr.lookup, Sem.run_bind, run_underlying hu, Result.andThen_ok, Sem.run_pure, run_getObj_map g1, K.check w _ hkl, hf, hz1]
  · cases ha
end Go.Am
