/- The law StoreFresh: in each transaction what is touched first was not, what is touched again was; slots are their own originals; no condition. -/
import Derived.Test.YtcnnccalglgnbaaRows
import Derived.SizedLaws
import Derived.Test.YtcnnccalglgnbaaG10
set_option linter.unusedSimpArgs false
set_option linter.unusedVariables false
set_option linter.constructorNameAsVariable false
namespace Go.Proofs.Ytcnnccalglgnbaa.StoreFresh
open Go Go.Am
open Go.ChangeShapes Go.WideShapes Go.ChangeAt Go.RowKit
theorem own : ownKnob Try.prog.godebug = none := by kernel_rfl
theorem laidOut : laidOutB Try.prog = true := by kernel_rfl
theorem law (h : AH) (vs : List Value) (_ : Try.prog.globals.size ≤ h.length) (_ : NoRW h) (ha : TArgs Try.prog [22, 45] vs) : ACalls Try.prog 6 vs.toArray h (fun v _ => v = .bool true) := by
  obtain ⟨v0, r0, rfl, h0, ha⟩ := ha.cons_inv
  obtain ⟨v1, r1, rfl, h1, ha⟩ := ha.cons_inv
  obtain rfl := ha.none_inv
  obtain ⟨s, rfl, hs⟩ := h0.dec (by kernel_rfl) (Decs.sliceL Try.underlying22 flatEnt (fun p => length_encEnt p) decsEnt)
  obtain ⟨t, rfl, ht⟩ := h1.dec (by kernel_rfl) (Decs.slice Try.underlying45 flatOp10 (fun p => length_encOp10 p) decsOp10)
  obtain ⟨⟨_, hs2⟩, hs3⟩ := hs
  rw [bytesEnt] at hs2
  have e1 : maxLen = 2 ^ 63 - 1 := rfl
  have e2 : reachBytes = 0x7ffffffff000 := rfl
  have ht1 := ht.1
  exact fresh_calls s (by omega) (fun e he => hs3 e he) t (by omega) h
set_option maxRecDepth 100000 in
theorem lifted (os : Os) (started : os.Started) (H : Type) (enc : TypeId × Value → H) :
    ReturnsInHanded {} Try.checked os 6 .any (Rows.storeFreshSpec.pre6 enc Try.prog Try.f6 Rows.storeFreshRow.domain false) (Rows.storeFreshSpec.post enc Try.prog Try.f6 false true false false) := by
  refine returnsInHanded_of_change_sized (C := Try.checked) own started (by kernel_rfl) Try.func6
    (ChangeSpec.witness6 (enc := enc) (C := Try.checked) false ⟨#[], #[.slice none 0 0, .slice none 0 0], []⟩ 8 (by kernel_rfl) (by kernel_rfl) (by kernel_rfl) (by kernel_rfl)) ?_
  intro W base args ds gs before hval0 hW hcnd hz0 _
  have hval : ∀ (j : Nat) t v, Try.f6.params[j]? = some t → args[j]? = some v → Value.okWide Try.prog W .any base t v := hval0
  have hW' := hW
  obtain ⟨p, q, hA0, hV, rfl, hfz, hnd⟩ := hW
  have hA : DataW.TrodAll enc Try.prog W 0 (fun _ => true) true Try.f6.params.toList args.toList ds p := hA0
  rw [Try.params6] at hA hval
  obtain ⟨rfl, rfl⟩ := trodVars_none hV
  have hz : (DataW.weightsEach Try.prog [22, 45] ds).all (· ≤ reachBytes) = true := by
    have e : Try.f6.params.toList ++ Rows.storeFreshSpec.plain.varTypes Try.prog = [22, 45] := by kernel_rfl
    rw [List.append_nil] at hz0
    rw [← e]; exact hz0
  have hcall := law_calls (P := Try.prog) laidOut (spare := fun _ => true) (fun _ => rfl) (F := 6) (ts := [22, 45]) (r := .any) (b0 := base) (by kernel_rfl) law (fun j t v h1 h2 => hval j t v (by simpa using h1) (by simpa using h2)) hA hz
  refine hcall.mono fun e W' ⟨he, bel⟩ => ?_
  subst he
  have hT := trodAll_below laidOut bel [22, 45] args.toList ds p (by intro t ht; simp only [List.mem_cons, List.not_mem_nil, or_false] at ht; rcases ht with rfl | rfl <;> exact ⟨by kernel_rfl, of_decide_eq_true (by kernel_rfl)⟩) hA
  obtain ⟨v0, vs0, d0, ds0, p0, q0, hargs, rfl, rfl, h0, r0⟩ := trodAll_cons hA
  obtain ⟨v1, vs1, d1, ds1, p1, q1, rfl, rfl, rfl, h1, r1⟩ := trodAll_cons r0
  obtain ⟨rfl, rfl, rfl⟩ := trodAll_nil r1
  exact ⟨_, rfl, _, _, _, [], _, [], hW', trodAll_mk1 (shut_bool Try.underlying4 _), hT, rfl, bel.frame _, fun h => by cases h⟩
/-- the statement -/
theorem proved : Rows.StoreFreshSaid :=
  OpenClaim.holds_of_wide 6 Try.f6 rfl rfl rfl rfl rfl rfl rfl ⟨rfl, rfl, rfl, rfl, rfl⟩ rfl rfl rfl rfl rfl (by kernel_rfl) Try.func6 (by kernel_rfl)
    (of_decide_eq_true (by kernel_rfl)) (by unfold Func.isWrapper; first | (rw [if_pos (by decide +kernel)]; kernel_rfl) | (rw [if_neg (by decide +kernel)]; exact ⟨rfl, rfl⟩))
    (fun os started H enc _ => lifted os started H enc)
#print axioms proved
end Go.Proofs.Ytcnnccalglgnbaa.StoreFresh

