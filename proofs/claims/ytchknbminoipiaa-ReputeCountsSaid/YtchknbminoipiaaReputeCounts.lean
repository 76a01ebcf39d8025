/- The law ReputeCounts: so many times seen and included, from nothing on, are so many; nobody else's change; no condition. -/
import Derived.Test.YtchknbminoipiaaRepL
import Derived.Test.YtchknbminoipiaaRows
set_option linter.unusedSimpArgs false
set_option linter.unusedVariables false
set_option linter.constructorNameAsVariable false
namespace Go.Proofs.Ytchknbminoipiaa.ReputeCounts
open Go Go.Am
open Go.ChangeShapes Go.WideShapes Go.ChangeAt Go.RowKit

theorem own : ownKnob Try.prog.godebug = none := by kernel_rfl
theorem laidOut : laidOutB Try.prog = true := by kernel_rfl
theorem flatB : flat Try.prog 8 4 = some [4] := by kernel_rfl
theorem flatA : flat Try.prog 8 24 = some (List.replicate 20 5) := by kernel_rfl
theorem law (h : AH) (vs : List Value) (_ : Try.prog.globals.size ≤ h.length) (_ : NoRW h) (ha : TArgs Try.prog [22, 24, 24] vs) : ACalls Try.prog 3 vs.toArray h (fun v _ => v = .bool true) := by
  obtain ⟨v0, r0, rfl, h0, ha⟩ := ha.cons_inv
  obtain ⟨v1, r1, rfl, h1, ha⟩ := ha.cons_inv
  obtain ⟨v2, r2, rfl, h2, ha⟩ := ha.cons_inv
  obtain rfl := ha.none_inv
  obtain ⟨s, rfl, hok⟩ := h0.dec (by kernel_rfl) (Decs.slice Try.underlying22 flatB (fun p => length_encBo p) (Decs.bool Try.underlying4))
  obtain ⟨a, rfl, _⟩ := h1.decs (enc := encAddr) (by kernel_rfl) flatA ((Decs.u8 Try.underlying5).vec 20)
  obtain ⟨b, rfl, _⟩ := h2.decs (enc := encAddr) (by kernel_rfl) flatA ((Decs.u8 Try.underlying5).vec 20)
  exact (counts_law s a b h).mono fun _ _ e => e.1

set_option maxRecDepth 100000 in
theorem lifted (os : Os) (started : os.Started) (H : Type) (enc : TypeId × Value → H) :
    ReturnsInHanded {} Try.checked os 3 .any (Rows.reputeCountsSpec.pre6 enc Try.prog Try.f3 Rows.reputeCountsRow.domain false) (Rows.reputeCountsSpec.post enc Try.prog Try.f3 false true false false) := by
  refine returnsInHanded_of_change (C := Try.checked) own started (by kernel_rfl) Try.func3
    (ChangeSpec.witness6 (enc := enc) (C := Try.checked) false ⟨#[], #[.slice none 0 0, .agg (Array.replicate 20 (.int .u8 0)), .agg (Array.replicate 20 (.int .u8 0))], []⟩ 8 (by kernel_rfl) (by kernel_rfl) (by kernel_rfl) (by kernel_rfl)) ?_
  intro W base args ds gs before hval0 hW hcnd _
  have hval : ∀ (j : Nat) t v, Try.f3.params[j]? = some t → args[j]? = some v → Value.okWide Try.prog W .any base t v := hval0
  have hW' := hW
  obtain ⟨p, q, hA0, hV, rfl, hfz, hnd⟩ := hW
  have hA : DataW.TrodAll enc Try.prog W 0 (fun _ => true) true Try.f3.params.toList args.toList ds p := hA0
  rw [Try.params3] at hA hval
  have hcall := law_calls (P := Try.prog) laidOut (spare := fun _ => true) (fun _ => rfl) (F := 3) (ts := [22, 24, 24]) (r := .any) (b0 := base) (by kernel_rfl) law (fun j t v h1 h2 => hval j t v (by simpa using h1) (by simpa using h2)) hA
  refine hcall.mono fun e W' ⟨he, bel⟩ => ?_
  subst he
  have hT := trodAll_below laidOut bel [22, 24, 24] args.toList ds p (by intro t ht; simp only [List.mem_cons, List.not_mem_nil, or_false] at ht; rcases ht with rfl | rfl | rfl <;> exact ⟨by kernel_rfl, of_decide_eq_true (by kernel_rfl)⟩) hA
  obtain ⟨v0, vs0, d0, ds0, p0, q0, hargs, rfl, rfl, h0, r0⟩ := trodAll_cons hA
  obtain ⟨v1, vs1, d1, ds1, p1, q1, rfl, rfl, rfl, h1, r1⟩ := trodAll_cons r0
  obtain ⟨v2, vs2, d2, ds2, p2, q2, rfl, rfl, rfl, h2, r2⟩ := trodAll_cons r1
  obtain ⟨rfl, rfl, rfl⟩ := trodAll_nil r2
  obtain ⟨rfl, rfl⟩ := trodVars_none hV
  exact ⟨_, rfl, _, _, _, [], _, [], hW', trodAll_mk1 (shut_bool Try.underlying4 _), hT, rfl, bel.frame _, fun h => by cases h⟩

/-- the statement -/
theorem proved : Rows.ReputeCountsSaid :=
  OpenClaim.holds_of_wide 3 Try.f3 rfl rfl rfl rfl rfl rfl rfl ⟨rfl, rfl, rfl, rfl, rfl⟩ rfl rfl rfl rfl rfl (by kernel_rfl) Try.func3 (by kernel_rfl)
    (of_decide_eq_true (by kernel_rfl)) (by unfold Func.isWrapper; first | (rw [if_pos (by decide +kernel)]; kernel_rfl) | (rw [if_neg (by decide +kernel)]; exact ⟨rfl, rfl⟩))
    (fun os started H enc _ => lifted os started H enc)

#print axioms proved
end Go.Proofs.Ytchknbminoipiaa.ReputeCounts
