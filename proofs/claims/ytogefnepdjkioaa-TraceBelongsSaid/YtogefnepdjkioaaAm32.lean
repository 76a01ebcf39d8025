import Derived.Test.YtogefnepdjkioaaAm31
set_option linter.unusedVariables false
set_option linter.unusedSimpArgs false
/- Arguments as values of Lean's own types. -/
namespace Go.Am
open Go

/-- whatever comes in as cells of these types is a value of Lean's -/
def Decs {α : Type} (P : Program) (ts : List TypeId) (enc : α → List Value) (ok : α → Prop) : Prop :=
  ∀ cs : List Value, cs.length = ts.length → (∀ i : Nat, i < ts.length → TLeaf P (ts.getD i 0) (cs.getD i junk)) → ∃ x, cs = enc x ∧ ok x

section
variable {P : Program} {t e : TypeId} {α β : Type}

theorem one_cell {cs : List Value} (h : cs.length = [t].length) : ∃ v, cs = [v] := by
  match cs, h with
  | [v], _ => exact ⟨v, rfl⟩

theorem Decs.u8 (hu : P.underlying t = some (.int .u8)) : Decs P [t] (fun b : UInt8 => [Value.int .u8 b.toNat]) (fun _ => True) := by
  intro cs hl h
  obtain ⟨v, rfl⟩ := one_cell hl
  obtain ⟨n, e, hw⟩ := (h 0 (by simp)).int_inv (k := .u8) hu
  simp only [List.getD_cons_zero] at e
  subst e
  simp [Lit.wf, IntKind.min, IntKind.max, IntKind.signed, IntKind.bits] at hw
  refine ⟨UInt8.ofNat n.toNat, ?_, trivial⟩
  have : (UInt8.ofNat n.toNat).toNat = n.toNat := by simp; omega
  show [_] = [Value.int _ _]
  rw [this, Int.toNat_of_nonneg (by omega)]
theorem Decs.u64 (hu : P.underlying t = some (.int .u64)) : Decs P [t] (fun b : UInt64 => [Value.int .u64 b.toNat]) (fun _ => True) := by
  intro cs hl h
  obtain ⟨v, rfl⟩ := one_cell hl
  obtain ⟨n, e, hw⟩ := (h 0 (by simp)).int_inv (k := .u64) hu
  simp only [List.getD_cons_zero] at e
  subst e
  simp [Lit.wf, IntKind.min, IntKind.max, IntKind.signed, IntKind.bits] at hw
  refine ⟨UInt64.ofNat n.toNat, ?_, trivial⟩
  have : (UInt64.ofNat n.toNat).toNat = n.toNat := by simp; omega
  show [_] = [Value.int _ _]
  rw [this, Int.toNat_of_nonneg (by omega)]
theorem Decs.int {k : IntKind} (hu : P.underlying t = some (.int k)) : Decs P [t] (fun n : Int => [Value.int k n]) (fun n => (Lit.int k n).wf = true) := by
  intro cs hl h
  obtain ⟨v, rfl⟩ := one_cell hl
  obtain ⟨n, e, hw⟩ := (h 0 (by simp)).int_inv hu
  simp only [List.getD_cons_zero] at e
  subst e
  exact ⟨n, rfl, hw⟩
theorem Decs.bool (hu : P.underlying t = some .bool) : Decs P [t] (fun b : Bool => [Value.bool b]) (fun _ => True) := by
  intro cs hl h
  obtain ⟨v, rfl⟩ := one_cell hl
  obtain ⟨b, e⟩ := (h 0 (by simp)).bool_inv hu
  simp only [List.getD_cons_zero] at e
  subst e
  exact ⟨b, rfl, trivial⟩
theorem Decs.string (hu : P.underlying t = some .string) : Decs P [t] (fun s : ByteArray => [Value.string s]) (fun s => s.size ≤ maxLen) := by
  intro cs hl h
  obtain ⟨v, rfl⟩ := one_cell hl
  obtain ⟨b, e, hb⟩ := (h 0 (by simp)).string_inv hu
  simp only [List.getD_cons_zero] at e
  subst e
  exact ⟨b, rfl, hb⟩

theorem Decs.append {ts1 ts2 : List TypeId} {enc1 : α → List Value} {enc2 : β → List Value} {ok1 : α → Prop} {ok2 : β → Prop} (h1 : Decs P ts1 enc1 ok1) (h2 : Decs P ts2 enc2 ok2) :
    Decs P (ts1 ++ ts2) (fun p : α × β => enc1 p.1 ++ enc2 p.2) (fun p => ok1 p.1 ∧ ok2 p.2) := by
  intro cs hl h
  simp only [List.length_append] at hl
  obtain ⟨x, hx, ox⟩ := h1 (cs.take ts1.length) (by simp; omega) fun i hi => by
    have := h i (by simp; omega)
    simp only [List.getD_eq_getElem?_getD, List.getElem?_append_left hi] at this
    simpa [List.getD_eq_getElem?_getD, List.getElem?_take, hi] using this
  obtain ⟨y, hy, oy⟩ := h2 (cs.drop ts1.length) (by simp; omega) fun i hi => by
    have := h (ts1.length + i) (by simp; omega)
    simp only [List.getD_eq_getElem?_getD, List.getElem?_append_right (Nat.le_add_right _ _), Nat.add_sub_cancel_left] at this
    simpa [List.getD_eq_getElem?_getD, List.getElem?_drop] using this
  exact ⟨(x, y), by show _ = enc1 x ++ enc2 y; rw [← hx, ← hy, List.take_append_drop], ox, oy⟩

theorem Decs.to {ts : List TypeId} {enc : α → List Value} {enc' : β → List Value} {ok : α → Prop} {ok' : β → Prop} (h : Decs P ts enc ok) (g : α → β) (hg : ∀ x, enc x = enc' (g x)) (ho : ∀ x, ok x → ok' (g x)) : Decs P ts enc' ok' := by
  intro cs hl hc
  obtain ⟨x, hx, ox⟩ := h cs hl hc
  exact ⟨g x, by rw [hx, hg], ho x ox⟩

theorem Decs.vec {f : α → Value} {ok : α → Prop} (h : Decs P [t] (fun x => [f x]) ok) : ∀ n : Nat, Decs P (List.replicate n t) (fun v : Vector α n => v.toList.map f) (fun v => ∀ x ∈ v.toList, ok x) := by
  intro n cs hl hc
  have : ∀ (n : Nat) (cs : List Value), cs.length = n → (∀ i : Nat, i < n → TLeaf P t (cs.getD i junk)) → ∃ l : List α, l.length = n ∧ cs = l.map f ∧ ∀ x ∈ l, ok x := by
    intro n
    induction n with
    | zero => intro cs h0 _; exact ⟨[], rfl, List.length_eq_zero_iff.1 h0, by simp⟩
    | succ n ih =>
      intro cs h1 h2
      match cs, h1 with
      | c :: cs, h1 =>
        obtain ⟨l, g1, g2, g3⟩ := ih cs (by simpa using h1) fun i hi => by simpa using h2 (i + 1) (by omega)
        obtain ⟨x, hx, ox⟩ := h [c] rfl fun i hi => by
          have : i = 0 := by simpa using hi
          subst this
          simpa using h2 0 (by omega)
        simp only [List.cons.injEq, and_true] at hx
        exact ⟨x :: l, by simp [g1], by simp [g2, hx], fun y hy => by rcases List.mem_cons.1 hy with rfl | hy; exact ox; exact g3 y hy⟩
  obtain ⟨l, g1, g2, g3⟩ := this n cs (by simpa using hl) fun i hi => by
    have := hc i (by simpa using hi)
    simpa [List.getD_eq_getElem?_getD, List.getElem?_replicate, hi] using this
  exact ⟨⟨l.toArray, by simpa using g1⟩, by simpa using g2, by simpa using g3⟩

/-- a slice that came in -/
theorem Decs.slice {l : List TypeId} {enc : α → List Value} {ok : α → Prop} (hu : P.underlying t = some (.slice e)) (hl : flat P 8 e = some l) (hn : ∀ x, (enc x).length = l.length) (h : Decs P l enc ok) :
    Decs P [t] (fun s : Sl α => [slV enc s]) (fun s => s.l.length ≤ maxLen ∧ ∀ x ∈ s.l, ok x) := by
  intro cs hlen hc
  obtain ⟨v, rfl⟩ := one_cell hlen
  have h0 := hc 0 (by simp)
  simp only [List.getD_cons_zero] at h0
  rcases h0.slice_inv hu hl with rfl | ⟨len, c, rfl, hm, hsz, hall⟩
  · exact ⟨Sl.none, rfl, Nat.zero_le _, by simp [Sl.none]⟩
  · have : ∀ (len : Nat) (c : List Value), c.length = len * l.length → (∀ i j, i < len → j < l.length → TLeaf P (l.getD j 0) (c.getD (i * l.length + j) junk)) → ∃ xs : List α, xs.length = len ∧ c = xs.flatMap enc ∧ ∀ x ∈ xs, ok x := by
      intro len
      induction len with
      | zero => intro c h1 _; exact ⟨[], rfl, List.length_eq_zero_iff.1 (by simpa using h1), by simp⟩
      | succ len ih =>
        intro c h1 h2
        rw [Nat.add_mul, Nat.one_mul] at h1
        obtain ⟨x, hx, ox⟩ := h (c.take l.length) (by simp; omega) fun j hj => by
          have := h2 0 j (by omega) hj
          simp only [Nat.zero_mul, Nat.zero_add] at this
          simpa [List.getD_eq_getElem?_getD, List.getElem?_take, hj] using this
        obtain ⟨xs, g1, g2, g3⟩ := ih (c.drop l.length) (by simp; omega) fun i j hi hj => by
          have := h2 (i + 1) j (by omega) hj
          rw [Nat.add_mul, Nat.one_mul] at this
          have e1 : i * l.length + l.length + j = l.length + (i * l.length + j) := by omega
          rw [e1] at this
          simpa [List.getD_eq_getElem?_getD, List.getElem?_drop] using this
        exact ⟨x :: xs, by simp [g1], by rw [List.flatMap_cons, ← hx, ← g2, List.take_append_drop], fun y hy => by rcases List.mem_cons.1 hy with rfl | hy; exact ox; exact g3 y hy⟩
    obtain ⟨xs, g1, g2, g3⟩ := this len c.toList (by simpa using hsz) fun i j hi hj => by
      have := hall i j hi hj
      simpa [Array.getD_eq_getD_getElem?, List.getD_eq_getElem?_getD] using this
    refine ⟨Sl.full xs, ?_, by simp [Sl.full]; omega, by simpa [Sl.full] using g3⟩
    simp only [slV, Sl.full, cond_false, flatV, ← g2, g1]

/-- an argument that is a row of cells -/
theorem TArg.decs {ts : List TypeId} {enc : α → List Value} {ok : α → Prop} {v : Value} (ha : TArg P t v) (hw : (match P.underlying t with | some (.array _ _) | some (.struct _) => true | _ => false) = true) (hf : flat P 8 t = some ts) (h : Decs P ts enc ok) :
    ∃ x, v = .agg (enc x).toArray ∧ ok x := by
  have : ∃ cs : Array Value, v = .agg cs ∧ cs.size = ts.length ∧ ∀ i, i < ts.length → TLeaf P (ts.getD i 0) (cs.getD i junk) := by
    unfold TArg at ha
    split at ha
    · obtain ⟨l2, cs, h1, h2, h3, h4⟩ := ha; rw [hf] at h1; cases h1; exact ⟨cs, h2, h3, h4⟩
    · obtain ⟨l2, cs, h1, h2, h3, h4⟩ := ha; rw [hf] at h1; cases h1; exact ⟨cs, h2, h3, h4⟩
    · split at hw <;> simp_all
  obtain ⟨cs, rfl, h1, h2⟩ := this
  obtain ⟨x, hx, ox⟩ := h cs.toList (by simpa using h1) fun i hi => by
    have := h2 i hi
    simpa [Array.getD_eq_getD_getElem?, List.getD_eq_getElem?_getD] using this
  exact ⟨x, by rw [← hx], ox⟩
/-- an argument of one cell -/
theorem TArg.dec {f : α → Value} {ok : α → Prop} {v : Value} (ha : TArg P t v) (hw : (match P.underlying t with | some (.array _ _) | some (.struct _) => true | _ => false) = false) (h : Decs P [t] (fun x => [f x]) ok) : ∃ x, v = f x ∧ ok x := by
  have hl : TLeaf P t v := by
    unfold TArg at ha
    split at ha
    · simp_all
    · simp_all
    · exact ha
  obtain ⟨x, hx, ox⟩ := h [v] rfl fun i hi => by
    have : i = 0 := by simpa using hi
    subst this; exact hl
  simp only [List.cons.injEq, and_true] at hx
  exact ⟨x, hx, ox⟩
end
end Go.Am
