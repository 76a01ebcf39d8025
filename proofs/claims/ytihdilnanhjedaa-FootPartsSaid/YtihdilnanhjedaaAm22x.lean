import Derived.Test.YtihdilnanhjedaaAm19x
import Derived.Below
import Derived.Carry
set_option linter.unusedVariables false
set_option linter.unusedSimpArgs false
/- Arguments; a law. -/
namespace Go.Am
open Go Go.RowKit

/-- an argument whose type is told of -/
def okArg (P : Program) (t : TypeId) : Bool := match flat P 8 t with
  | some l => l.all (okLeaf P 8)
  | none => false

/-- what is known of an argument -/
def TArg (P : Program) (t : TypeId) (v : Value) : Prop :=
  match P.underlying t with
  | some (.struct _) | some (.array _ _) => ∃ l cs, flat P 8 t = some l ∧ v = .agg cs ∧ cs.size = l.length ∧ ∀ i, i < l.length → TLeaf P (l.getD i 0) (cs.getD i junk)
  | _ => TLeaf P t v

variable {H : Type} {enc : TypeId × Value → H} {P : Program} {w : World} {spare : Nat → Bool} {held : Bool}

theorem arg_abs (hspare : ∀ b, spare b = true) {t : TypeId} {v : Value} {d : DataW H} {ps : List MemPlace} {r : Reach} {b0 : Nat} (ho : okArg P t = true) (hw : Value.okWide P w r b0 t v) (hr : DataW.Trod enc P w 0 spare held t v d ps)
    (f : Emb) (h : AH) (hs : Sim P f h w) (hn : NoRW h) : ∃ f' v', Ext P w f h f' ∧ VRel f' h.length v' v ∧ TArg P t v' := by
  obtain ⟨n, hn2⟩ := hr
  unfold okArg at ho
  cases hf : flat P 8 t with
  | none => simp [hf] at ho
  | some l =>
    simp only [hf, List.all_eq_true] at ho
    obtain ⟨hlen, hleaf⟩ := trod_flat 8 n t _ _ _ hn2 hf
    have row : ∀ cs : Array Value, v.cells.toList = cs.toList → ∃ (f' : Emb) (cs' : List Value), Ext P w f h f' ∧ cs'.length = cs.size ∧ (∀ i : Nat, VRel f' h.length (cs'.getD i junk) (cs.getD i junk) ∧ (i < cs.size → (cs.getD i junk).oneCell' = true)) ∧ ∀ i, i < l.length → TLeaf P (l.getD i 0) (cs'.getD i junk) := by
      intro cs hcs
      rw [hcs] at hlen hleaf
      obtain ⟨f1, vs1, e1, h1, h2, h3⟩ := rows_abs (P := P) (w := w) (Rd := fun t v => ∃ n y, DataW.trod enc P w 0 spare held n t [v] = some y ∧ okLeaf P 8 t = true)
        (fun t v ⟨n2, y, h2, h3⟩ => leaf_abs hspare n2 n2 8 t v y (Nat.le_refl _) h2 h3) l cs.toList hlen.symm (fun i u v hu hv => by
          obtain ⟨c, n2, y, h1, h2, h3⟩ := hleaf i u hu
          rw [hv] at h1
          cases h1
          exact ⟨n2, y, h3, ho u (List.mem_of_getElem? hu)⟩) f h hs hn
      have e : ∀ i, cs.toList.getD i junk = cs.getD i junk := fun i => by simp [Array.getD_eq_getD_getElem?, List.getD]
      refine ⟨f1, vs1, e1, by simpa using h1, fun i => ?_, h3⟩
      have := h2 i
      rw [e i] at this
      simpa using this
    have single : (∀ fs, P.underlying t ≠ some (.struct fs)) → (∀ k e, P.underlying t ≠ some (.array k e)) → l = [t] := by
      intro h1 h2
      unfold flat at hf
      cases hu : P.underlying t with
      | none => simp [hu] at hf
      | some d => cases d <;> simp_all
    have agg : ∀ cs : Array Value, v = .agg cs → ∃ f' v', Ext P w f h f' ∧ VRel f' h.length v' v ∧ ∃ l cs, flat P 8 t = some l ∧ v' = .agg cs ∧ cs.size = l.length ∧ ∀ i, i < l.length → TLeaf P (l.getD i 0) (cs.getD i junk) := by
      rintro cs rfl
      obtain ⟨f1, cs', e1, h1, h2, h3⟩ := row cs rfl
      have e : ∀ i, cs'.toArray.getD i junk = cs'.getD i junk := fun i => by simp [Array.getD_eq_getD_getElem?, List.getD]
      have hsz : cs.size = l.length := by simpa [Value.cells] using hlen
      refine ⟨f1, .agg cs'.toArray, e1, .agg _ _ (by simpa using h1) (fun i => by rw [e]; exact (h2 i).1) (fun i => ?_), l, cs'.toArray, hf, rfl, by simp [h1, hsz], fun i hi => by rw [e]; exact h3 i hi⟩
      by_cases hi : i < cs.size
      · exact (h2 i).2 hi
      · rw [getD_ge i (by omega)]; rfl
    have cell : l = [t] → TLeaf P t v ∨ True → v.cells = #[v] → ∃ f' v', Ext P w f h f' ∧ VRel f' h.length v' v ∧ TLeaf P t v' := by
      intro hl _ hv
      subst hl
      obtain ⟨f1, cs', e1, h1, h2, h3⟩ := row #[v] (by rw [hv])
      exact ⟨f1, cs'.getD 0 junk, e1, by simpa using (h2 0).1, by simpa using h3 0 (by simp)⟩
    cases hu : P.underlying t with
    | none => unfold flat at hf; simp [hu] at hf
    | some dd =>
      have notagg : (∀ fs, dd ≠ .struct fs) → (∀ k e, dd ≠ .array k e) → v.cells = #[v] := by
        intro h1 h2
        have hl := single (fun fs => by rw [hu]; exact fun e => h1 fs (Option.some.inj e)) (fun k e => by rw [hu]; exact fun e' => h2 k e (Option.some.inj e'))
        cases v with
        | agg cs =>
          exfalso
          simp only [Value.okWide, hu] at hw
          cases dd <;> simp_all [Cell.okWide, Cell.ok]
        | _ => rfl
      unfold TArg
      rw [hu]
      cases dd with
      | struct fs =>
        simp only [Value.okWide, hu] at hw
        obtain ⟨cs, hv, _⟩ := hw
        exact agg cs hv
      | array k e =>
        simp only [Value.okWide, hu] at hw
        obtain ⟨cs, hv, _⟩ := hw
        exact agg cs hv
      | _ => exact cell (single (fun fs => by rw [hu]; exact fun e => by cases e) (fun k e => by rw [hu]; exact fun e => by cases e)) (.inr trivial) (notagg (fun _ e => by cases e) (fun _ _ e => by cases e))

/-- what is known of all arguments -/
inductive TArgs (P : Program) : List TypeId → List Value → Prop
  | nil : TArgs P [] []
  | cons {t : TypeId} {ts : List TypeId} {v : Value} {vs : List Value} (ha : TArg P t v) (hr : TArgs P ts vs) : TArgs P (t :: ts) (v :: vs)

theorem args_abs (hspare : ∀ b, spare b = true) {r : Reach} {b0 : Nat} : ∀ (ts : List TypeId) (vs : List Value) (ds : List (DataW H)) (ps : List MemPlace), (∀ t ∈ ts, okArg P t = true) →
    (∀ (j : Nat) t v, ts[j]? = some t → vs[j]? = some v → Value.okWide P w r b0 t v) → DataW.TrodAll enc P w 0 spare held ts vs ds ps →
    ∀ (f : Emb) (h : AH), Sim P f h w → NoRW h → ∃ (f' : Emb) (vs' : List Value), Ext P w f h f' ∧ vs'.length = vs.length ∧ (∀ i : Nat, VRel f' h.length (vs'.getD i junk) (vs.getD i junk)) ∧ TArgs P ts vs' := by
  intro ts
  induction ts with
  | nil =>
    intro vs ds ps _ _ hT f h hs hn
    cases vs with
    | nil => exact ⟨f, [], .refl hs, rfl, fun i => by simp; exact .junk _, .nil⟩
    | cons v vs => cases ds <;> simp [DataW.TrodAll] at hT
  | cons t ts ih =>
    intro vs ds ps ho hv hT f h hs hn
    cases vs with
    | nil => cases ds <;> simp [DataW.TrodAll] at hT
    | cons v vs =>
      cases ds with
      | nil => simp [DataW.TrodAll] at hT
      | cons d ds =>
        obtain ⟨p, q, h1, h2, rfl⟩ := hT
        obtain ⟨f1, v1, e1, r1, a1⟩ := arg_abs hspare (ho t (List.mem_cons_self ..)) (hv 0 t v rfl rfl) h1 f h hs hn
        obtain ⟨f2, vs2, e2, hl, r2, a2⟩ := ih vs ds q (fun t ht => ho t (List.mem_cons_of_mem _ ht)) (fun j t v h3 h4 => hv (j + 1) t v (by simpa using h3) (by simpa using h4)) h2 f1 h e1.sim hn
        refine ⟨f2, v1 :: vs2, e1.trans e2, by simp [hl], fun i => ?_, .cons a1 a2⟩
        cases i with
        | zero => simpa using r1.mono (Nat.le_refl _) e2.agree
        | succ i => simpa using r2 i

/-- nothing is known of the package's own variables -/
def start (P : Program) : AH := List.replicate P.globals.size .dead
def at0 : Emb := ⟨fun b => ⟨b, 0, 0, 0, 0⟩, fun _ => none⟩

theorem start_get {P : Program} {b : Nat} {o : AObj} (h : (start P)[b]? = some o) : o = .dead := by
  unfold start at h
  rw [List.getElem?_replicate] at h
  split at h
  · exact (Option.some.inj h).symm
  · cases h

theorem start_sim (P : Program) (hl : laidOutB P = true) (w : World) : Sim P at0 (start P) w :=
  ⟨(fun b o hb ha => by rw [start_get hb] at ha; cases ha), (fun b b' o o' hb _ ha _ _ _ => by rw [start_get hb] at ha; cases ha), (fun g _ => ⟨rfl, rfl⟩), by simp [start], fun r ds e => (by cases e), hl, fun b o hb => (by rw [start_get hb]; trivial)⟩
theorem start_norw (P : Program) : NoRW (start P) := fun b o hb => by rw [start_get hb]; rfl

/-- a law whose walk is done -/
theorem law_calls (hl0 : laidOutB P = true) (hspare : ∀ b, spare b = true) {F : FuncId} {ts : List TypeId} {r : Reach} {b0 : Nat} {args : Array Value} {ds : List (DataW H)} {ps : List MemPlace} (ho : ts.all (okArg P) = true)
    (hlaw : ∀ (h : AH) (vs : List Value), P.globals.size ≤ h.length → NoRW h → TArgs P ts vs → ACalls P F vs.toArray h (fun v _ => v = .bool true))
    (hv : ∀ (j : Nat) t v, ts[j]? = some t → args.toList[j]? = some v → Value.okWide P w r b0 t v) (hT : DataW.TrodAll enc P w 0 spare held ts args.toList ds ps) :
    Calls P F args w fun e w' => e = .returned (.bool true) ∧ Below w.heap.size w w' := by
  obtain ⟨f1, vs, e1, hl, hr, ha⟩ := args_abs hspare ts args.toList ds ps (List.all_eq_true.1 ho) hv hT at0 (start P) (start_sim P hl0 w) (start_norw P)
  have hno := start_norw P
  refine ((hlaw (start P) vs (by simp [start]) hno ha).run f1 w args e1.sim ⟨by simpa using hl, fun i => ?_⟩).mono fun e w' ⟨f', v, v', h', h1, h2, h3, h4⟩ => ?_
  · have := hr i
    have e1 : args.toList.getD i junk = args.getD i junk := by simp [Array.getD_eq_getD_getElem?, List.getD]
    have e2 : vs.toArray.getD i junk = vs.getD i junk := by simp [Array.getD_eq_getD_getElem?, List.getD]
    rw [e1] at this; rw [e2]; exact this
  · subst h2
    cases h4
    exact ⟨h1, h3.keep.os, h3.keep.tape, h3.keep.output, h3.keep.size, fun k hk => h3.keep.block k hk fun b o hb ho => by rw [hno b o hb] at ho; cases ho⟩

/-- all arguments are read as before -/
theorem trodAll_below (hl : laidOutB P = true) {w' : World} (hb : Below w.heap.size w w') : ∀ (ts : List TypeId) (vs : List Value) (ds : List (DataW H)) (ps : List MemPlace), (∀ t ∈ ts, P.readableRec t = true ∧ t < P.types.size) →
    DataW.TrodAll enc P w 0 (fun _ => true) true ts vs ds ps → DataW.TrodAll enc P w' 0 (fun b => decide (b < w.heap.size)) true ts vs ds ps := by
  intro ts
  induction ts with
  | nil => intro vs ds ps _ h; cases vs <;> cases ds <;> simp_all [DataW.TrodAll]
  | cons t ts ih =>
    intro vs ds ps ho h
    cases vs with
    | nil => cases ds <;> simp [DataW.TrodAll] at h
    | cons v vs =>
      cases ds with
      | nil => simp [DataW.TrodAll] at h
      | cons d ds =>
        obtain ⟨p, q, h1, h2, rfl⟩ := h
        refine ⟨p, q, Below.trod hl (ho t (List.mem_cons_self ..)).1 (ho t (List.mem_cons_self ..)).2 h1 hb ?_, ih vs ds q (fun t ht => ho t (List.mem_cons_of_mem _ ht)) h2, rfl⟩
        obtain ⟨m, hm⟩ := h1
        exact DataW.trod_lt m _ _ _ hm
end Go.Am
set_option linter.unusedVariables false
set_option linter.unusedSimpArgs false
/- What is known of arguments, laid open. -/
namespace Go.Am
open Go

variable {P : Program} {h : AH} {t e : TypeId} {v : Value}

theorem TLeaf.int_inv {k : IntKind} (ha : TLeaf P t v) (hu : P.underlying t = some (.int k)) : ∃ n, v = .int k n ∧ (Lit.int k n).wf = true := by
  cases ha with
  | int n hu2 hw => rw [hu] at hu2; cases hu2; exact ⟨n, rfl, hw⟩
  | bool _ hu2 | string _ hu2 | nil hu2 | slice _ _ _ hu2 => rw [hu] at hu2; cases hu2
theorem TLeaf.bool_inv (ha : TLeaf P t v) (hu : P.underlying t = some .bool) : ∃ b, v = .bool b := by
  cases ha with
  | bool b hu2 => exact ⟨b, rfl⟩
  | int _ hu2 | string _ hu2 | nil hu2 | slice _ _ _ hu2 => rw [hu] at hu2; cases hu2
theorem TLeaf.string_inv (ha : TLeaf P t v) (hu : P.underlying t = some .string) : ∃ s, v = .string s ∧ s.size ≤ maxLen := by
  cases ha with
  | string s hu2 hs => exact ⟨s, rfl, hs⟩
  | int _ hu2 | bool _ hu2 | nil hu2 | slice _ _ _ hu2 => rw [hu] at hu2; cases hu2
theorem TLeaf.slice_inv {l : List TypeId} (ha : TLeaf P t v) (hu : P.underlying t = some (.slice e)) (hl : flat P 8 e = some l) :
    v = .slice none 0 0 ∨ ∃ len c, v = fz c len ∧ len ≤ maxLen ∧ c.size = len * l.length ∧ ∀ i j, i < len → j < l.length → TLeaf P (l.getD j 0) (c.getD (i * l.length + j) junk) := by
  cases ha with
  | nil hu2 => exact .inl rfl
  | slice l2 len c hu2 hl2 he h0 hm hc hall =>
    rw [hu] at hu2; cases hu2
    rw [hl] at hl2; cases hl2
    exact .inr ⟨len, c, rfl, hm, hc, hall⟩
  | int _ hu2 | bool _ hu2 | string _ hu2 => rw [hu] at hu2; cases hu2

theorem TArg.agg_struct {fs : Array Field} {l : List TypeId} (ha : TArg P t v) (hu : P.underlying t = some (.struct fs)) (hf : flat P 8 t = some l) :
    ∃ cs, v = .agg cs ∧ cs.size = l.length ∧ ∀ i, i < l.length → TLeaf P (l.getD i 0) (cs.getD i junk) := by
  unfold TArg at ha
  rw [hu] at ha
  obtain ⟨l2, cs, h1, h2, h3, h4⟩ := ha
  rw [hf] at h1; cases h1
  exact ⟨cs, h2, h3, h4⟩
theorem TArg.agg_array {k : Nat} {l : List TypeId} (ha : TArg P t v) (hu : P.underlying t = some (.array k e)) (hf : flat P 8 t = some l) :
    ∃ cs, v = .agg cs ∧ cs.size = l.length ∧ ∀ i, i < l.length → TLeaf P (l.getD i 0) (cs.getD i junk) := by
  unfold TArg at ha
  rw [hu] at ha
  obtain ⟨l2, cs, h1, h2, h3, h4⟩ := ha
  rw [hf] at h1; cases h1
  exact ⟨cs, h2, h3, h4⟩
theorem TArg.leaf_int {k : IntKind} (ha : TArg P t v) (hu : P.underlying t = some (.int k)) : TLeaf P t v := by unfold TArg at ha; rw [hu] at ha; exact ha
theorem TArg.leaf_bool (ha : TArg P t v) (hu : P.underlying t = some .bool) : TLeaf P t v := by unfold TArg at ha; rw [hu] at ha; exact ha
theorem TArg.leaf_string (ha : TArg P t v) (hu : P.underlying t = some .string) : TLeaf P t v := by unfold TArg at ha; rw [hu] at ha; exact ha
theorem TArg.leaf_slice (ha : TArg P t v) (hu : P.underlying t = some (.slice e)) : TLeaf P t v := by unfold TArg at ha; rw [hu] at ha; exact ha

theorem TArgs.none_inv {vs : List Value} (ha : TArgs P [] vs) : vs = [] := by cases ha; rfl
theorem TArgs.cons_inv {ts : List TypeId} {vs : List Value} (ha : TArgs P (t :: ts) vs) : ∃ v r, vs = v :: r ∧ TArg P t v ∧ TArgs P ts r := by
  cases ha with
  | cons h1 h2 => exact ⟨_, _, rfl, h1, h2⟩

theorem wf_u64 {n : Int} (h : (Lit.int .u64 n).wf = true) : 0 ≤ n ∧ n < 18446744073709551616 := by
  simp [Lit.wf, IntKind.min, IntKind.max, IntKind.signed, IntKind.bits] at h
  omega

/-- the last cells of a row -/
theorem split_at {cs : Array Value} {n : Nat} (k : Nat) (hs : cs.size = n + k) : cs = cs.extract 0 n ++ cs.extract n (n + k) := by
  have e1 : min 0 n = 0 := by omega
  have e2 : max n (n + k) = cs.size := by omega
  rw [Array.extract_append_extract, e1, e2]; simp
theorem extract_two {cs : Array Value} {n : Nat} (hs : cs.size = n + 2) : cs = cs.extract 0 n ++ #[cs.getD n junk, cs.getD (n + 1) junk] := by
  apply Array.ext
  · simp [hs]
  · intro i h1 h2
    rw [Array.getElem_append]
    by_cases h : i < n
    · simp [hs, h]
    · have : i = n ∨ i = n + 1 := by omega
      rcases this with rfl | rfl <;> simp [hs, Array.getD, h1] <;> congr 1
end Go.Am
set_option linter.unusedVariables false
set_option linter.unusedSimpArgs false
/- Rows that are written. -/
namespace Go.Am
open Go
/-- two plain results that temporaries hold -/
theorem apost_tmp2x {P : Program} {h0 : AH} {fn : Func} {R : Value → AH → Prop} {u v : Value} {j k : Nat} (hr : fn.results = #[.tmp j, .tmp k]) (hR : R (.tuple #[u, v]) h0) (l : List Value) (t : AH) (hl : l.getD j junk = u) (hk : l.getD k junk = v)
    (hp : plainB u = true ∧ plainB v = true := by exact ⟨rfl, rfl⟩) : apost P h0 fn R .ret l.toArray (h0 ++ t) :=
  apost_tuple (l := [u, v]) (by rw [aresults_tmp2 hr, getD_lit, getD_lit, hl, hk]) (by simp [hp.1, hp.2]) (keeps_append _ _) hR
theorem blit_eq : ∀ (vs : List Value) (c : Array Value) (o : Nat), o + vs.length ≤ c.size → blit c o vs = (c.toList.take o ++ vs ++ c.toList.drop (o + vs.length)).toArray := by
  intro vs
  induction vs with
  | nil => intro c o _; simp [blit]
  | cons v r ih =>
    intro c o h
    simp only [List.length_cons] at h
    rw [blit, ih _ _ (by simp; omega)]
    congr 1
    have ho : o < c.toList.length := by simp; omega
    simp only [Array.toList_setIfInBounds, List.length_cons]
    rw [List.drop_set_of_lt (by omega), List.take_add_one, List.take_set_of_le (by omega), List.getElem?_set_self ho]
    simp [Nat.add_comm, Nat.add_left_comm]

theorem blit_front {Z R A : Array Value} (h : Z.size = A.size) : blit (Z ++ R) 0 A.toList = A ++ R := by
  rw [blit_eq _ _ _ (by simp; omega)]
  apply Array.ext'
  simp [← h]

/-- a row with two numbers behind it -/
def fame (A : Array Value) (s i : Int) : Array Value := A ++ #[.int .u64 s, .int .u64 i]
section
variable {A : Array Value} {s i x : Int}
theorem fame_size (hA : A.size = 20) : (fame A s i).size = 22 := by simp [fame, hA]
theorem fame_seen (hA : A.size = 20) : (fame A s i)[20]? = some (.int .u64 s) := by simp [fame, Array.getElem?_append, hA]
theorem fame_incl (hA : A.size = 20) : (fame A s i)[21]? = some (.int .u64 i) := by simp [fame, Array.getElem?_append, hA]
theorem fame_all (hA : A.size = 20) : (fame A s i).extract 0 22 = fame A s i := by rw [Array.extract_eq_self_of_le]; simp [fame_size hA]
theorem fame_addr (hA : A.size = 20) : (fame A s i).extract 0 20 = A := by
  unfold fame; rw [Array.extract_append]; simp [hA]
theorem fame_set_seen (hA : A.size = 20) : (fame A s i).setIfInBounds 20 (.int .u64 x) = fame A x i := by
  unfold fame; rw [Array.setIfInBounds_append_right (by omega)]; simp [hA]
theorem fame_set_incl (hA : A.size = 20) : (fame A s i).setIfInBounds 21 (.int .u64 x) = fame A s x := by
  unfold fame; rw [Array.setIfInBounds_append_right (by omega)]; simp [hA]
theorem fame0_size {v : Value} : (fame (Array.replicate 20 v) s i).size = 22 := by simp [fame]
theorem fame0_blit {v : Value} {s' i' : Int} (hA : A.size = 20) : blit (fame (Array.replicate 20 v) s' i') 0 (fame A s i).toList = fame A s i := blit_all (by rw [fame0_size, fame_size hA])
theorem fame0_addr {v : Value} {s' i' : Int} (hA : A.size = 20) : blit (fame (Array.replicate 20 v) s' i') 0 A.toList = fame A s' i' := by unfold fame; exact blit_front (by simp [hA])
theorem fame_mk : A ++ #[Value.int .u64 s, .int .u64 i] = fame A s i := rfl
end
end Go.Am
