import Derived.Test.YtogefnepdjkioaaAm28
set_option linter.unusedVariables false
set_option linter.unusedSimpArgs false
/- Slices that grow; what is forgotten; calls at frozen arguments. -/
namespace Go.Am
open Go

/-- a slice that grows from nil on, and lies in a block of its own -/
def outV {α : Type} (b : Nat) (l : List α) : Value := match l with
  | [] => .slice none 0 0
  | _ :: _ => .slice (some ⟨b, 0, none⟩) l.length l.length
def outO {α : Type} (enc : α → List Value) (m : Nat) (l : List α) : AObj := match l with
  | [] => .dead
  | _ :: _ => .cells (flatV enc l) m true

section
variable {P : Program} {h H : AH} {t u : TypeId} {b m n by_ : Nat} {g : Bool} {i : Int} {ik : IntKind} {α : Type} {enc : α → List Value} {l : List α} {new : Array Value}

theorem outV_nil : (outV b ([] : List α)) = .slice none 0 0 := rfl
theorem outO_nil : outO enc m ([] : List α) = .dead := rfl
theorem outV_ne (hl : l ≠ []) : outV b l = .slice (some ⟨b, 0, none⟩) l.length l.length := by cases l <;> simp_all [outV]
theorem outO_ne (hl : l ≠ []) : outO enc m l = .cells (flatV enc l) m true := by cases l <;> simp_all [outO]
theorem flatV_append (l l2 : List α) : flatV enc (l ++ l2) = flatV enc l ++ flatV enc l2 := by simp [flatV]
theorem outV_snoc {a : α} : outV b (l ++ [a]) = .slice (some ⟨b, 0, none⟩) (l.length + 1) (l.length + 1) := by rw [outV_ne (by simp)]; simp
theorem outO_snoc {a : α} : outO enc m (l ++ [a]) = .cells (flatV enc l ++ (enc a).toArray) m true := by rw [outO_ne (by simp), flatV_append]; simp [flatV]

theorem set_same {l : List AObj} {k : Nat} {x : AObj} (h : l[k]? = some x) : l.set k x = l := by
  apply List.ext_getElem?
  intro i
  by_cases hi : k = i
  · subst hi; rw [List.getElem?_set_self (List.getElem?_eq_some_iff.1 h).1, h]
  · rw [List.getElem?_set_ne hi]

theorem mkApp_out (hb : H[b]? = some (outO enc m l)) (hm : ∀ x, (enc x).length = m) (hn : 0 < n) (hbd : (2 * (l.length + n) + 192) * by_ ≤ 2 ^ 48 ∧ l.length + n < 2 ^ 62) :
    mkApp H (outV b l) (some (g, m, by_)) (some (n, new)) = some (.slice (some ⟨H.length, 0, none⟩) (l.length + n) (l.length + n), H.set b .dead ++ [.cells (flatV enc l ++ new) m true]) := by
  cases l with
  | nil =>
    simp only [outV, outO, mkApp, List.length_nil, Nat.zero_add] at hb hbd ⊢
    rw [if_neg (by omega), if_pos hbd, set_same hb]
    simp [flatV]
  | cons x l =>
    have hsz := flat_size hm (x :: l)
    simp only [outV, outO, mkApp] at hb ⊢
    rw [if_neg (by omega), hb]
    simp only
    rw [if_pos (by simp [hsz]), if_neg (by omega), if_pos hbd, Nat.zero_add, ← hsz, Array.extract_size]

theorem alen_outV {f : Bool × Nat × Nat} (ha : slc P t = some f) : alen P h t (outV b l) = some (.int .i64 (l.length : Nat)) := by
  cases l with
  | nil => exact alen_eq' ha
  | cons x l => exact alen_eq' ha
theorem aindex_outV (ha : slc P t = some (g, m, by_)) : aindexAddr P t (outV b l) (.int ik i) = if 0 ≤ i ∧ i < l.length then some (.pointer (some ⟨b, i.toNat * m, none⟩)) else none := by
  cases l with
  | nil =>
    obtain ⟨elem, ie, hu, _⟩ := slc_spec ha
    rw [if_neg (by simp)]
    simp only [outV, aindexAddr, hu]
  | cons x l =>
    simp only [outV]
    rw [aindexS_eq' ha]
    simp only [mkIndexS, Nat.zero_add]
theorem asource_outV (hb : H[b]? = some (outO enc m l)) (hm : ∀ x, (enc x).length = m) : asource H m (outV b l) = some (l.length, flatV enc l) := by
  cases l with
  | nil => rfl
  | cons x l =>
    have hsz := flat_size hm (x :: l)
    simp only [outV, outO, asource] at hb ⊢
    rw [if_neg (by simp), hb]
    simp only [Nat.zero_add]
    rw [if_pos (by rw [hsz]; exact Nat.le_refl _), ← hsz, Array.extract_size]
end

/-- a slice that has grown becomes a value -/
theorem Rf.outV {α : Type} {h h1 : AH} {enc : α → List Value} {m b : Nat} {l : List α} (hb : h[b]? = some (outO enc m l)) (hd : h1[b]? = some .dead) (hm : ∀ x, (enc x).length = m) : Rf h h1 (Am.outV b l) (slV enc (Sl.app l)) := by
  cases l with
  | nil => exact .same _
  | cons x l =>
    exact .slice b 0 _ _ m (flatV enc (x :: l)) (flatV enc (x :: l)) true hb hd (by omega) (Nat.le_refl _) (fun h => by simp at h) fun i _ => by rw [Nat.zero_add]; exact .same _

/-- a slice that fills its block becomes a value -/
theorem Rf.full {α : Type} {h h1 : AH} {enc : α → List Value} {es b : Nat} {l : List α} {rw : Bool} {cap : Nat} (hb : h[b]? = some (.cells (flatV enc l) es rw)) (hd : h1[b]? = some .dead) (hc : l.length ≤ cap) : Rf h h1 (.slice (some ⟨b, 0, none⟩) l.length cap) (slV enc (Sl.full l)) := by
  show Rf h h1 _ (fz (flatV enc l) l.length)
  exact .slice b 0 _ _ es (flatV enc l) (flatV enc l) rw hb hd (by omega) hc (fun h => by
    have : l = [] := List.length_eq_zero_iff.1 h
    subst this; simp [flatV]) fun i _ => by rw [Nat.zero_add]; exact .same _

/-! ### calls at frozen arguments -/
theorem ACalls.freeze {P : Program} {F : FuncId} {args args1 : Array Value} {h h1 : AH} {R : Value → AH → Prop} (hz : HFz h h1) (hsz : args1.size = args.size) (hv : ∀ i : Nat, Rf h h1 (args.getD i junk) (args1.getD i junk)) (hc : ACalls P F args1 h1 R) : ACalls P F args h R := by
  refine ⟨hc.inh, fun f w args' hs ha => ?_⟩
  obtain ⟨k1, k2⟩ := froze_sim (h1 := h1) hs hz
  have hag := froze_agree (h1 := h1) hs
  have old : ∀ (b : Nat) (o1 : AObj), h1[b]? = some o1 → o1.rw = true → ∃ o, h[b]? = some o ∧ o.rw = true := by
    intro b o1 hb hrw
    rcases hz.obj b o1 hb (rw_alive hrw) with h2 | ⟨c, c1, es, rw, h2, rfl, _⟩
    · exact ⟨o1, h2, hrw⟩
    · exact ⟨_, h2, hrw⟩
  have ha1 : ARel (f.froze h h1 w) h1.length args1 args' := ⟨hsz.trans ha.1, fun i => freeze_rel hs hz.len hag k2 (hv i) (ha.2 i)⟩
  refine (hc.run _ w args' k1 ha1).mono fun e w' hx => ?_
  obtain ⟨f', v, v', h', h2, h3, st, h5⟩ := hx
  refine ⟨f', v, v', h', h2, h3, ⟨st.sim, hag.trans st.agree (by rw [hz.len]; exact Nat.le_refl _), by rw [← hz.len]; exact st.len, ⟨st.keep.os, st.keep.tape, st.keep.output, st.keep.size, fun r hr hno => ?_⟩, fun b o hb ho => ?_⟩, h5⟩
  · refine st.keep.block r hr fun b o hb ho => ?_
    obtain ⟨o2, g1, g2⟩ := old b o hb ho
    exact hno b o2 g1 g2
  · rcases st.own b o hb ho with h6 | ⟨b0, o0, g1, g2, g3⟩
    · exact .inl h6
    · obtain ⟨o2, q1, q2⟩ := old b0 o0 g1 g2
      exact .inr ⟨b0, o2, q1, q2, g3⟩

/-- the last block of a heap dies -/
theorem HFz.last {h : AH} {o : AObj} : HFz (h ++ [o]) (h ++ [.dead]) :=
  ⟨by simp, fun b o1 hb ha => by
    by_cases hl : b < h.length
    · rw [List.getElem?_append_left hl] at hb; exact .inl (by rw [List.getElem?_append_left hl]; exact hb)
    · rw [List.getElem?_append_right (by omega)] at hb
      have h1 := (List.getElem?_eq_some_iff.1 hb).1
      simp at h1
      have : b - h.length = 0 := by omega
      rw [this] at hb
      simp at hb
      subst hb
      cases ha⟩

theorem HFz.refl (h : AH) : HFz h h := ⟨rfl, fun b o1 hb ha => .inl hb⟩

/-- a block dies -/
theorem HFz.set {h : AH} {b : Nat} : HFz h (h.set b .dead) :=
  ⟨by simp, fun b' o1 hb ha => by
    by_cases he : b = b'
    · subst he
      by_cases hl : b < h.length
      · rw [List.getElem?_set_self hl] at hb; cases hb; cases ha
      · rw [List.getElem?_eq_none (by simpa using hl)] at hb; cases hb
    · rw [List.getElem?_set_ne he] at hb; exact .inl hb⟩

/-- a dead block more -/
theorem Eases.ghost {P : Program} {h0 : AH} {a : Array Value} {h : AH} : Eases P h0 a h a (h ++ [.dead]) := by
  intro f0 w0 f a' w s0 g
  have hcase : ∀ (b : Nat) (x : AObj), (h ++ [.dead])[b]? = some x → x.alive = true → b < h.length ∧ h[b]? = some x := by
    intro b x hb ha
    by_cases hl : b < h.length
    · rw [List.getElem?_append_left hl] at hb; exact ⟨hl, hb⟩
    · rw [List.getElem?_append_right (by omega)] at hb
      have h1 := (List.getElem?_eq_some_iff.1 hb).1
      simp at h1
      have : b - h.length = 0 := by omega
      rw [this] at hb; simp at hb; subst hb; cases ha
  refine ⟨f, ⟨fun b o hb ha => ?_, fun b b' o o' hb hb' ha ha' hrw hne => ?_, g.sim.glob, by have := g.sim.size; simp; omega, fun r ds hr => ⟨(g.sim.rom r ds hr).1, fun b o hb ho => (g.sim.rom r ds hr).2 b o (hcase b o hb (rw_alive ho)).2 ho⟩, g.sim.laid, fun b o hb => ?_⟩,
    g.tm.mono (by simp) (.refl _ _), g.df, g.keep, fun b o hb ho => g.own b o (hcase b o hb (rw_alive ho)).2 ho, g.agree, by have := g.len; simp; omega⟩
  · obtain ⟨o', h1, h2⟩ := g.sim.obj b o (hcase b o hb ha).2 ha
    exact ⟨o', h1, h2.mono (by simp) (.refl _ _)⟩
  · exact g.sim.sep b b' o o' (hcase b o hb ha).2 (hcase b' o' hb' ha').2 ha ha' hrw hne
  · by_cases ha : o.alive = true
    · exact g.sim.ok b o (hcase b o hb ha).2
    · cases o <;> first | trivial | exact absurd rfl ha

/-! ### what is not needed any more -/
/-- a value stays, or is forgotten -/
inductive Keeps (L : Nat) : List Value → List Value → Prop
  | nil : Keeps L [] []
  | junk (v : Value) {l l1 : List Value} (r : Keeps L l l1) : Keeps L (v :: l) (Am.junk :: l1)
  | keep {v : Value} {l l1 : List Value} (h : VRen id L v v) (r : Keeps L l l1) : Keeps L (v :: l) (v :: l1)

theorem Keeps.length {L : Nat} {l l1 : List Value} (h : Keeps L l l1) : l1.length = l.length := by induction h <;> simp_all
theorem Keeps.get {L : Nat} {l l1 : List Value} (h : Keeps L l l1) : ∀ i : Nat, VRen id L (l1.getD i Am.junk) (l.getD i Am.junk) := by
  induction h with
  | nil => intro i; simp; exact .junk _
  | junk v _ ih => intro i; cases i with
    | zero => simpa using VRen.junk v
    | succ i => simpa using ih i
  | keep h _ ih => intro i; cases i with
    | zero => simpa using h
    | succ i => simpa using ih i

/-- the blocks behind are dropped -/
theorem Eases.tail {P : Program} {h0 hk x : AH} {l l1 : List Value} (hle : h0.length ≤ hk.length) (hobj : ∀ b o, hk[b]? = some o → o.alive = true → (b < h0.length ∧ h0[b]? = some o) ∨ ORen id hk.length o o) (hv : Keeps hk.length l l1) :
    Eases P h0 l.toArray (hk ++ x) l1.toArray hk := by
  refine Forget.eases (.inr ⟨id, ⟨hle, fun b hb => rfl, fun b o1 hb ha => ⟨o1, ?_, ?_⟩, fun b b' _ _ e => e⟩, by simpa using hv.length, fun i => ?_⟩)
  · show (hk ++ x)[b]? = _
    rw [List.getElem?_append_left (List.getElem?_eq_some_iff.1 hb).1]; exact hb
  · rcases hobj b o1 hb ha with ⟨h1, h2⟩ | h3
    · exact .inl ⟨h1, h2, rfl⟩
    · exact .inr h3
  · have := hv.get i
    simpa [Array.getD_eq_getD_getElem?, List.getD] using this

/-- objects that name no block -/
def treeObj : AObj → Prop
  | .dead => True
  | .cells c _ _ => ∀ i : Nat, Tree (c.getD i Am.junk)
  | .map _ es _ => ∀ e ∈ es.toList, Tree e.val
  | .miter .. => False

theorem treeObj.ren {L : Nat} {o : AObj} (h : treeObj o) : ORen id L o o := by
  cases o with
  | dead => trivial
  | cells c es rw => exact ⟨c, rfl, rfl, fun i => (h i).ren⟩
  | map k es clock => exact ⟨es, rfl, rfl, fun i e he => ⟨e, he, rfl, rfl, (h e (by have := Array.mem_of_getElem? he; simpa using this)).ren⟩⟩
  | miter m s seen st => exact h.elim

/-- the blocks behind the first new ones are dropped -/
theorem Eases.drop {P : Program} {h0 t x : AH} {l l1 : List Value} (ht : ∀ o ∈ t, ORen id (h0.length + t.length) o o) (hv : Keeps (h0.length + t.length) l l1) :
    Eases P h0 l.toArray (h0 ++ t ++ x) l1.toArray (h0 ++ t) := by
  refine Eases.tail (by simp) (fun b o hb ha => ?_) (by simpa using hv)
  by_cases hl : b < h0.length
  · rw [List.getElem?_append_left hl] at hb; exact .inl ⟨hl, hb⟩
  · rw [List.getElem?_append_right (by omega)] at hb
    exact .inr (by simpa using ht o (List.mem_of_getElem? hb))
end Go.Am
