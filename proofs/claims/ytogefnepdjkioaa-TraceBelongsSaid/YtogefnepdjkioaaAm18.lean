import Derived.Test.YtogefnepdjkioaaAm17
set_option linter.unusedVariables false
set_option linter.unusedSimpArgs false
/- The end of a function. -/
namespace Go.Am
open Go

theorem VB_undef {σ : Nat → Nat} {L : Nat} : VRen σ L undef undef := .tuple #[] #[] rfl (fun i => by simp; exact .junk _)

def keeps (h0 h : AH) : Prop := h0.length ≤ h.length ∧ ∀ b, b < h0.length → h[b]? = h0[b]?
theorem keeps_refl (h : AH) : keeps h h := ⟨Nat.le_refl _, fun _ _ => rfl⟩
theorem keeps_append (h l : AH) : keeps h (h ++ l) := ⟨by simp, fun b hb => List.getElem?_append_left hb⟩

theorem aresults_tmp {P : Program} {fn : Func} {t : Nat} (hr : fn.results = #[.tmp t]) (a : Array Value) (h : AH) : aresults P fn a h = some (a.getD t junk) := by
  simp [aresults, hr, aresL, ares1]
theorem aresults_none {P : Program} {fn : Func} (hr : fn.results = #[]) (a : Array Value) (h : AH) : aresults P fn a h = some undef := by
  simp [aresults, hr, aresL, undef]
theorem aresults_cell {P : Program} {fn : Func} {t : Nat} {ty : TypeId} (hr : fn.results = #[.cell t ty]) (a : Array Value) (h : AH) : aresults P fn a h = aload P h ty (a.getD t junk) := by
  simp only [aresults, hr, aresL, ares1]
  cases aload P h ty (a.getD t junk) <;> rfl
theorem aresults_tmp2 {P : Program} {fn : Func} {t u : Nat} (hr : fn.results = #[.tmp t, .tmp u]) (a : Array Value) (h : AH) : aresults P fn a h = some (.tuple #[a.getD t junk, a.getD u junk]) := by
  simp [aresults, hr, aresL, ares1]
theorem aresults_cell_tmp {P : Program} {fn : Func} {t u : Nat} {ty : TypeId} {v : Value} (hr : fn.results = #[.cell t ty, .tmp u]) (a : Array Value) (h : AH) (hv : aload P h ty (a.getD t junk) = some v) : aresults P fn a h = some (.tuple #[v, a.getD u junk]) := by
  simp only [aresults, hr, aresL, ares1, hv]

/-- a plain value; all that was made is dropped -/
theorem apost_plain {P : Program} {h0 h : AH} {fn : Func} {R : Value → AH → Prop} {a : Array Value} {v : Value} (hv : aresults P fn a h = some v) (hp : plainB v = true) (hk : keeps h0 h) (hR : R v h0) : apost P h0 fn R .ret a h :=
  ⟨v, v, h0, hv, ForgetV.eases (.inr ⟨id, GC.drop hk.1 hk.2, plain_ren hp⟩), hR⟩
theorem apost_plain_n {P : Program} {h0 h : AH} {fn : Func} {R : Value → AH → Prop} {a : Array Value} {v : Value} (hv : aresults P fn a h = some v) (hp : plainB v = true) (hk : keeps h0 h) (hR : R v h0) : apost P h0 fn R .normal a h :=
  ⟨v, v, h0, hv, ForgetV.eases (.inr ⟨id, GC.drop hk.1 hk.2, plain_ren hp⟩), hR⟩

theorem plain_ren_tuple {σ : Nat → Nat} {L : Nat} {l : List Value} (h : l.all plainB = true) : VRen σ L (.tuple l.toArray) (.tuple l.toArray) := by
  refine .tuple _ _ rfl fun i => ?_
  rw [List.all_eq_true] at h
  by_cases hi : i < l.length
  · have : (l.toArray).getD i junk = l[i] := by simp [Array.getD, hi]
    rw [this]
    exact plain_ren (h _ (List.getElem_mem hi))
  · rw [getD_ge i (by simpa using hi)]; exact .junk _

/-- several plain values -/
theorem apost_tuple {P : Program} {h0 h : AH} {fn : Func} {R : Value → AH → Prop} {a : Array Value} {l : List Value} (hv : aresults P fn a h = some (.tuple l.toArray)) (hp : l.all plainB = true) (hk : keeps h0 h) (hR : R (.tuple l.toArray) h0) : apost P h0 fn R .ret a h :=
  ⟨_, _, h0, hv, ForgetV.eases (.inr ⟨id, GC.drop hk.1 hk.2, plain_ren_tuple hp⟩), hR⟩

/-- which new blocks are kept, and in which order -/
def pick (n : Nat) (js : List Nat) (b : Nat) : Nat := if b < n then b else n + js.getD (b - n) (b - n)

theorem pick_lt (n : Nat) (js : List Nat) (b : Nat) (h : b < n) : pick n js b = b := by simp [pick, h]
theorem pick_new (n : Nat) (js : List Nat) (k : Nat) : pick n js (n + k) = n + js.getD k k := by
  unfold pick; rw [if_neg (by omega)]; congr 2 <;> omega

theorem GC.pick {h0 t t1 : AH} (js : List Nat) (hl : js.length = t1.length) (hnd : js.Nodup)
    (hobj : ∀ i o1, t1[i]? = some o1 → o1.alive = true → ∃ o, t[js.getD i i]? = some o ∧ ORen (pick h0.length js) (h0.length + t1.length) o1 o) : GC h0 (pick h0.length js) (h0 ++ t) (h0 ++ t1) := by
  refine ⟨by simp, fun b hb => pick_lt _ _ _ hb, fun b o1 hb ha => ?_, fun b b' hb hb' e => ?_⟩
  · by_cases hlt : b < h0.length
    · rw [List.getElem?_append_left hlt] at hb
      exact ⟨o1, by rw [pick_lt _ _ _ hlt, List.getElem?_append_left hlt]; exact hb, .inl ⟨hlt, hb, rfl⟩⟩
    · obtain ⟨k, rfl⟩ : ∃ k, b = h0.length + k := ⟨b - h0.length, by omega⟩
      rw [at_new] at hb
      obtain ⟨o, h1, h2⟩ := hobj k o1 hb ha
      exact ⟨o, by rw [pick_new, at_new]; exact h1, .inr (by simpa using h2)⟩
  · simp only [List.length_append] at hb hb'
    by_cases h1 : b < h0.length <;> by_cases h2 : b' < h0.length
    · rw [pick_lt _ _ _ h1, pick_lt _ _ _ h2] at e; exact e
    · obtain ⟨k, rfl⟩ : ∃ k, b' = h0.length + k := ⟨b' - h0.length, by omega⟩
      rw [pick_lt _ _ _ h1, pick_new] at e; omega
    · obtain ⟨k, rfl⟩ : ∃ k, b = h0.length + k := ⟨b - h0.length, by omega⟩
      rw [pick_lt _ _ _ h2, pick_new] at e; omega
    · obtain ⟨k, rfl⟩ : ∃ k, b = h0.length + k := ⟨b - h0.length, by omega⟩
      obtain ⟨k', rfl⟩ : ∃ k, b' = h0.length + k := ⟨b' - h0.length, by omega⟩
      rw [pick_new, pick_new] at e
      have hk : k < js.length := by omega
      have hk' : k' < js.length := by omega
      have e2 : js[k] = js[k'] := by
        have : js.getD k k = js.getD k' k' := by omega
        simpa [List.getD, hk, hk'] using this
      have := (List.getElem_inj hnd).1 e2
      omega

/-- rows of plain cells are said as they are -/
theorem oren_plain {σ : Nat → Nat} {L : Nat} {c : Array Value} {es : Nat} {rw : Bool} (h : c.all plain1 = true) : ORen σ L (.cells c es rw) (.cells c es rw) :=
  ⟨c, rfl, rfl, fun i => by
    by_cases hi : i < c.size
    · exact .plain _ (getD_all h i hi)
    · rw [getD_ge i hi]; exact .junk _⟩

/-- one new block is kept -/
theorem GC.one {h0 t : AH} (j : Nat) (o1 : AObj) (hobj : ∃ o, t[j]? = some o ∧ ORen (Am.pick h0.length [j]) (h0.length + 1) o1 o) : GC h0 (Am.pick h0.length [j]) (h0 ++ t) (h0 ++ [o1]) :=
  GC.pick [j] rfl (by simp) (fun i o1' hi ha => by
    cases i with
    | zero => simp at hi; subst hi; exact hobj
    | succ i => simp at hi)

/-- a slice over a new row of plain cells, which is kept alone -/
theorem apost_slice {P : Program} {h0 t : AH} {fn : Func} {R : Value → AH → Prop} {a : Array Value} {k o len cap es : Nat} {c : Array Value} {rw : Bool} (hv : aresults P fn a (h0 ++ t) = some (.slice (some ⟨h0.length + k, o, none⟩) len cap))
    (ht : t[k]? = some (.cells c es rw)) (hp : c.all plain1 = true) (hR : R (.slice (some ⟨h0.length, o, none⟩) len cap) (h0 ++ [.cells c es rw])) : apost P h0 fn R .ret a (h0 ++ t) := by
  refine ⟨_, _, _, hv, ForgetV.eases (.inr ⟨pick h0.length [k], GC.one k _ ⟨_, ht, oren_plain hp⟩, .slice _ _ _ _ _ (by simp) ?_⟩), hR⟩
  have := pick_new h0.length [k] 0
  simpa using this.symm

end Go.Am
