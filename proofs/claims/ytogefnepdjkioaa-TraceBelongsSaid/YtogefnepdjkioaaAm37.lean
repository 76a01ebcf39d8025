import Derived.Test.YtogefnepdjkioaaAm36
set_option linter.unusedVariables false
set_option linter.unusedSimpArgs false
/- A slice that grows in a loop; one new block that stays. -/
namespace Go.Am
open Go

theorem Keeps.easeT {P : Program} {h0 : AH} {o : AObj} {l l1 : List Value} (ht : ORen id (h0.length + 1) o o) (hv : Keeps (h0.length + 1) l l1) : Eases P h0 l.toArray (h0 ++ [o]) l1.toArray (h0 ++ [o]) := by
  have := Eases.drop (P := P) (t := [o]) (x := []) (by intro o' ho; rw [List.mem_singleton] at ho; subst ho; exact ht) hv
  simpa using this
theorem Keeps.easeX {P : Program} {h0 : AH} {o : AObj} {x : AH} {l l1 : List Value} (ht : ORen id (h0.length + 1) o o) (hv : Keeps (h0.length + 1) l l1) : Eases P h0 l.toArray (h0 ++ o :: x) l1.toArray (h0 ++ [o]) := by
  have := Eases.drop (P := P) (t := [o]) (x := x) (by intro o' ho; rw [List.mem_singleton] at ho; subst ho; exact ht) hv
  simpa using this
/-- the same, where nothing new was there -/
theorem Keeps.easeG {P : Program} {h0 : AH} {l l1 : List Value} (hv : Keeps h0.length l l1) : Eases P h0 l.toArray h0 l1.toArray (h0 ++ [.dead]) :=
  hv.ease0.trans Eases.ghost
theorem Keeps.easeXG {P : Program} {h0 x : AH} {l l1 : List Value} (hv : Keeps h0.length l l1) : Eases P h0 l.toArray (h0 ++ x) l1.toArray (h0 ++ [.dead]) :=
  hv.ease1.trans Eases.ghost

theorem outV_id {α : Type} {n : Nat} {l : List α} : VRen id (n + 1) (outV n l) (outV n l) := by
  cases l with
  | nil => exact .plain _ rfl
  | cons x l => exact .slice _ _ _ _ _ (by omega) rfl
theorem outV_renS {α : Type} {n j : Nat} {l : List α} {a : α} : VRen (Am.pick n [j]) (n + 1) (outV n (l ++ [a])) (.slice (some ⟨n + j, 0, none⟩) (l.length + 1) (l.length + 1)) := by
  rw [← outV_snoc (b := n + j) (a := a)]; exact outV_ren
theorem outO_renS {α : Type} {σ : Nat → Nat} {L m : Nat} {enc : α → List Value} (ht : ∀ x, ∀ v ∈ enc x, Tree v) {l : List α} {a : α} : ORen σ L (outO enc m (l ++ [a])) (.cells (flatV enc l ++ (enc a).toArray) m true) := by
  rw [← outO_snoc]; exact outO_ren ht

/-- a row of numbers is what comes back -/
theorem apost_out {P : Program} {h0 t : AH} {fn : Func} {R : Value → AH → Prop} {k m : Nat} {α : Type} {enc : α → List Value} {l : List α} (hr : fn.results = #[.tmp k]) (hm : ∀ x, (enc x).length = m) (ht : ∀ x, ∀ v ∈ enc x, Tree v) (hR : R (slV enc (Sl.app l)) h0) (lst : List Value) (hl : lst.getD k junk = outV h0.length l) :
    apost P h0 fn R .ret lst.toArray (h0 ++ outO enc m l :: t) := by
  refine apost_tree (v := outV h0.length l) (by rw [aresults_tmp hr, getD_lit, hl]) (keeps_append _ _) (Rf.outV (at_new0 _ _) (dieNew_dead (Nat.le_refl _) (by simp)) hm) (.slV ht _) hR

/-- the places where something is so -/
def pickI (n : Nat) (p : Nat → Bool) : List Int := ((List.range n).filter p).map fun (i : Nat) => (i : Int)
theorem pickI_zero {p : Nat → Bool} : pickI 0 p = [] := rfl
theorem pickI_yes {n : Nat} {p : Nat → Bool} (h : p n = true) : pickI (n + 1) p = pickI n p ++ [(n : Int)] := by simp [pickI, List.range_succ, List.filter_append, h]
theorem pickI_no {n : Nat} {p : Nat → Bool} (h : p n = false) : pickI (n + 1) p = pickI n p := by simp [pickI, List.range_succ, List.filter_append, h]
theorem pickI_len {n : Nat} {p : Nat → Bool} : (pickI n p).length ≤ n := by
  have := List.length_filter_le p (List.range n)
  simpa [pickI] using this
theorem mkApp_outN {h t : AH} {α : Type} {enc : α → List Value} {l : List α} {g : Bool} {m n by_ : Nat} {new : Array Value} (hm : ∀ x, (enc x).length = m) (hn : 0 < n) (hbd : (2 * (l.length + n) + 192) * by_ ≤ 2 ^ 48 ∧ l.length + n < 2 ^ 62) :
    mkApp (h ++ outO enc m l :: t) (outV h.length l) (some (g, m, by_)) (some (n, new)) = some (.slice (some ⟨h.length + (t.length + 1), 0, none⟩) (l.length + n) (l.length + n), h ++ .dead :: (t ++ [.cells (flatV enc l ++ new) m true])) := by
  rw [mkApp_out (enc := enc) (at_new0 _ _) hm hn hbd]
  have e : (h ++ outO enc m l :: t).set h.length .dead = h ++ .dead :: t := set_new0 _ _ _
  rw [e]
  simp
attribute [go_sem] blit_list Array.size_append Array.size_replicate
end Go.Am
