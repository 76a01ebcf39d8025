import Derived.Test.YtogefnepdjkioaaAm23
set_option linter.unusedVariables false
set_option linter.unusedSimpArgs false
/- Rows that are written. -/
namespace Go.Am
open Go
/-- two plain results that temporaries hold -/
theorem apost_tmp2x {P : Program} {h0 : AH} {fn : Func} {R : Value → AH → Prop} {u v : Value} {j k : Nat} (hr : fn.results = #[.tmp j, .tmp k]) (hR : R (.tuple #[u, v]) h0) (l : List Value) (t : AH) (hl : l.getD j junk = u) (hk : l.getD k junk = v)
    (hp : plainB u = true ∧ plainB v = true := by exact ⟨rfl, rfl⟩) : apost P h0 fn R .ret l.toArray (h0 ++ t) :=
  apost_tuple (l := [u, v]) (by rw [aresults_tmp2 hr, getD_lit, getD_lit, hl, hk]) (by simp [hp.1, hp.2]) (keeps_append _ _) hR
theorem blit_eq : ∀ (vs : List Value) (c : Array Value) (o : Nat), o + vs.length ≤ c.size → blit c o vs = (c.toList.take o ++ vs ++ c.toList.drop (o + vs.length)).toArray := by
  intro vs
  induction vs with
  | nil => intro c o _; simp [blit]
  | cons v r ih =>
    intro c o h
    simp only [List.length_cons] at h
    rw [blit, ih _ _ (by simp; omega)]
    congr 1
    have ho : o < c.toList.length := by simp; omega
    simp only [Array.toList_setIfInBounds, List.length_cons]
    rw [List.drop_set_of_lt (by omega), List.take_add_one, List.take_set_of_le (by omega), List.getElem?_set_self ho]
    simp [Nat.add_comm, Nat.add_left_comm]

theorem blit_front {Z R A : Array Value} (h : Z.size = A.size) : blit (Z ++ R) 0 A.toList = A ++ R := by
  rw [blit_eq _ _ _ (by simp; omega)]
  apply Array.ext'
  simp [← h]

/-- a row with two numbers behind it -/
def fame (A : Array Value) (s i : Int) : Array Value := A ++ #[.int .u64 s, .int .u64 i]
section
variable {A : Array Value} {s i x : Int}
theorem fame_size (hA : A.size = 20) : (fame A s i).size = 22 := by simp [fame, hA]
theorem fame_seen (hA : A.size = 20) : (fame A s i)[20]? = some (.int .u64 s) := by simp [fame, Array.getElem?_append, hA]
theorem fame_incl (hA : A.size = 20) : (fame A s i)[21]? = some (.int .u64 i) := by simp [fame, Array.getElem?_append, hA]
theorem fame_all (hA : A.size = 20) : (fame A s i).extract 0 22 = fame A s i := by rw [Array.extract_eq_self_of_le]; simp [fame_size hA]
theorem fame_addr (hA : A.size = 20) : (fame A s i).extract 0 20 = A := by
  unfold fame; rw [Array.extract_append]; simp [hA]
theorem fame_set_seen (hA : A.size = 20) : (fame A s i).setIfInBounds 20 (.int .u64 x) = fame A x i := by
  unfold fame; rw [Array.setIfInBounds_append_right (by omega)]; simp [hA]
theorem fame_set_incl (hA : A.size = 20) : (fame A s i).setIfInBounds 21 (.int .u64 x) = fame A s x := by
  unfold fame; rw [Array.setIfInBounds_append_right (by omega)]; simp [hA]
theorem fame0_size {v : Value} : (fame (Array.replicate 20 v) s i).size = 22 := by simp [fame]
theorem fame0_blit {v : Value} {s' i' : Int} (hA : A.size = 20) : blit (fame (Array.replicate 20 v) s' i') 0 (fame A s i).toList = fame A s i := blit_all (by rw [fame0_size, fame_size hA])
theorem fame0_addr {v : Value} {s' i' : Int} (hA : A.size = 20) : blit (fame (Array.replicate 20 v) s' i') 0 A.toList = fame A s' i' := by unfold fame; exact blit_front (by simp [hA])
theorem fame_mk : A ++ #[Value.int .u64 s, .int .u64 i] = fame A s i := rfl
end
end Go.Am
