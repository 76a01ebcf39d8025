import Derived.Test.YtihdilnanhjedaaFacts
import Derived.Test.YtihdilnanhjedaaAm34x
set_option linter.unusedSimpArgs false
set_option linter.unusedVariables false
/- events -/
namespace Go.Proofs
open Go Go.Am

structure Ev where
  op : UInt8
  depth : Int
  self : Addr20
  arg : Word4
  value : Word4
  data : Sl UInt8
  fault : Int
def encEv (e : Ev) : List Value := [.int .u8 e.op.toNat, .int .i64 e.depth] ++ (encAddr e.self ++ (encWord e.arg ++ (encWord e.value ++ [slV encU8 e.data, .int .u16 e.fault])))
theorem length_encEv (e : Ev) : (encEv e).length = 32 := by simp [encEv, length_encAddr, length_encWord]
theorem tree_encEv (e : Ev) : ∀ v ∈ encEv e, Tree v := by
  intro v hv
  simp only [encEv, List.mem_append, List.mem_cons, List.not_mem_nil, or_false] at hv
  rcases hv with (rfl | rfl) | h | h | h | rfl | rfl
  · exact .plain _ rfl
  · exact .plain _ rfl
  · exact tree_encAddr _ _ h
  · exact tree_encWord _ _ h
  · exact tree_encWord _ _ h
  · exact .slV tree_encU8 _
  · exact .plain _ rfl
theorem ev_0 (e : Ev) : (encEv e)[0]? = some (.int .u8 e.op.toNat) := rfl
theorem ev_1 (e : Ev) : (encEv e)[1]? = some (.int .i64 e.depth) := rfl
theorem ev_30 (e : Ev) : (encEv e)[30]? = some (slV encU8 e.data) := by simp [encEv, List.getElem?_append, length_encAddr, length_encWord]
theorem ev_31 (e : Ev) : (encEv e)[31]? = some (.int .u16 e.fault) := by simp [encEv, List.getElem?_append, length_encAddr, length_encWord]
theorem ext_mid {a b c : List Value} {n m : Nat} (ha : a.length = n) (hb : b.length = m) : (a ++ (b ++ c)).toArray.extract n (n + m) = b.toArray := by
  apply Array.ext'
  simp only [Array.toList_extract, List.extract_eq_take_drop]
  subst ha; subst hb
  rw [List.drop_left, Nat.add_sub_cancel_left, List.take_left]
theorem ev_self (e : Ev) : (encEv e).toArray.extract 2 22 = (encAddr e.self).toArray := ext_mid (a := [_, _]) rfl (length_encAddr _)
theorem ev_arg (e : Ev) : (encEv e).toArray.extract 22 26 = (encWord e.arg).toArray := by
  have := ext_mid (a := [Value.int .u8 e.op.toNat, .int .i64 e.depth] ++ encAddr e.self) (b := encWord e.arg) (c := encWord e.value ++ [slV encU8 e.data, .int .u16 e.fault]) (n := 22) (m := 4) (by simp [length_encAddr]) (length_encWord _)
  rw [← this, encEv]; simp only [List.append_assoc]
theorem ev_value (e : Ev) : (encEv e).toArray.extract 26 30 = (encWord e.value).toArray := by
  have := ext_mid (a := [Value.int .u8 e.op.toNat, .int .i64 e.depth] ++ encAddr e.self ++ encWord e.arg) (b := encWord e.value) (c := [slV encU8 e.data, .int .u16 e.fault]) (n := 26) (m := 4) (by simp [length_encAddr, length_encWord]) (length_encWord _)
  rw [← this, encEv]; simp only [List.append_assoc]
attribute [go_sem] length_encEv ev_0 ev_1 ev_30 ev_31 ev_self ev_arg ev_value
section
variable {l : List Ev} {i : Nat}
theorem load_ev0 (hi : i < l.length) : mkLoadF (flatV encEv l) (i * 32) (some (false, 1)) = some (.int .u8 l[i].op.toNat) :=
  (loadF_part (off := 0) (m := 1) length_encEv hi (by omega) (by omega)).trans (ev_0 _)
theorem load_ev1 (hi : i < l.length) : mkLoadF (flatV encEv l) (i * 32 + 1) (some (false, 1)) = some (.int .i64 l[i].depth) :=
  (loadF_part (off := 1) (m := 1) length_encEv hi (by omega) (by omega)).trans (ev_1 _)
theorem load_ev30 (hi : i < l.length) : mkLoadF (flatV encEv l) (i * 32 + 30) (some (false, 1)) = some (slV encU8 l[i].data) :=
  (loadF_part (off := 30) (m := 1) length_encEv hi (by omega) (by omega)).trans (by rw [← ev_30]; simp [mkLoadF])
theorem load_ev31 (hi : i < l.length) : mkLoadF (flatV encEv l) (i * 32 + 31) (some (false, 1)) = some (.int .u16 l[i].fault) :=
  (loadF_part (off := 31) (m := 1) length_encEv hi (by omega) (by omega)).trans (by rw [← ev_31]; simp [mkLoadF])
theorem load_evP {e : Ev} {off m : Nat} {c : Array Value} (h : (encEv e).toArray.extract off (off + m) = c) (ho : off + m ≤ 32) : mkLoadF (encEv e).toArray off (some (true, m)) = some (.agg c) := by
  unfold mkLoadF
  simp only
  rw [if_pos (by simp [length_encEv]; omega), h]
theorem load_evS (hi : i < l.length) : mkLoadF (flatV encEv l) (i * 32 + 2) (some (true, 20)) = some (.agg (encAddr l[i].self).toArray) :=
  (loadF_part (off := 2) (m := 20) length_encEv hi (by omega) (by omega)).trans (load_evP (ev_self _) (by omega))
theorem load_evA (hi : i < l.length) : mkLoadF (flatV encEv l) (i * 32 + 22) (some (true, 4)) = some (.agg (encWord l[i].arg).toArray) :=
  (loadF_part (off := 22) (m := 4) length_encEv hi (by omega) (by omega)).trans (load_evP (ev_arg _) (by omega))
theorem load_evV (hi : i < l.length) : mkLoadF (flatV encEv l) (i * 32 + 26) (some (true, 4)) = some (.agg (encWord l[i].value).toArray) :=
  (loadF_part (off := 26) (m := 4) length_encEv hi (by omega) (by omega)).trans (load_evP (ev_value _) (by omega))
end
attribute [go_sem] load_ev0 load_ev1 load_ev30 load_ev31 load_evS load_evA load_evV

theorem flatEv : flat Try.prog 8 50 = some ([5] ++ ([3] ++ (List.replicate 20 5 ++ (List.replicate 4 34 ++ (List.replicate 4 34 ++ ([46] ++ [48])))))) := by kernel_rfl
theorem flatU8 : flat Try.prog 8 5 = some [5] := by kernel_rfl
def Ev.ok (e : Ev) : Prop := (Lit.int .i64 e.depth).wf = true ∧ (Lit.int .u16 e.fault).wf = true ∧ e.data.l.length ≤ maxLen
theorem decsEv : Decs Try.prog ([5] ++ ([3] ++ (List.replicate 20 5 ++ (List.replicate 4 34 ++ (List.replicate 4 34 ++ ([46] ++ [48])))))) encEv Ev.ok :=
  ((Decs.u8 Try.underlying5).append ((Decs.int (k := .i64) Try.underlying3).append (((Decs.u8 Try.underlying5).vec 20).append (((Decs.u64 Try.underlying34).vec 4).append (((Decs.u64 Try.underlying34).vec 4).append
    ((Decs.slice Try.underlying46 flatU8 (fun p => length_encU8 p) (Decs.u8 Try.underlying5)).append (Decs.int (k := .u16) Try.underlying48))))))).to
    (fun p => ⟨p.1, p.2.1, p.2.2.1, p.2.2.2.1, p.2.2.2.2.1, p.2.2.2.2.2.1, p.2.2.2.2.2.2⟩) (fun p => rfl) (fun p h => ⟨h.2.1, h.2.2.2.2.2.2, h.2.2.2.2.2.1.1⟩)
end Go.Proofs
