/- The law ReputeOrder: more that are included never stand worse, more that are seen never better, and more that are included never have a smaller quota; for every input, no condition. -/
import Derived.Test.YtibkpodkogclbaaReputeOrder1
import Derived.Test.YtibkpodkogclbaaRows
import Derived.Test.YtibkpodkogclbaaAm24
set_option linter.unusedSimpArgs false
set_option linter.unusedVariables false
namespace Go.Proofs.Ytibkpodkogclbaa.ReputeOrder
open Go Go.Am
open Go.ChangeShapes Go.WideShapes Go.ChangeAt Go.RowKit

theorem own : ownKnob Try.prog.godebug = none := by kernel_rfl
theorem laidOut : laidOutB Try.prog = true := by kernel_rfl
theorem flatFame : flat Try.prog 8 26 = some (List.replicate 20 (5) ++ [24, 24]) := by kernel_rfl

theorem law (h : AH) (vs : List Value) (_ : Try.prog.globals.size ≤ h.length) (_ : NoRW h) (ha : AArgs Try.prog h [26, 31] vs) : ACalls Try.prog 4 vs.toArray h (fun v _ => v = .bool true) := by
  obtain ⟨v, r, rfl, h0, hr⟩ := ha.cons_inv
  obtain ⟨v1, r, rfl, h1, hr⟩ := hr.cons_inv
  obtain rfl := hr.none_inv
  obtain ⟨cs, rfl, hs, hl⟩ := h0.agg_struct Try.underlying26 flatFame
  obtain ⟨m, rfl, wm⟩ := (h1.leaf_int Try.underlying31).int_inv Try.underlying31
  have hs' : cs.size = 20 + 2 := hs
  obtain ⟨s, e20, ws⟩ := (hl 20 (by decide)).int_inv (k := .u64) Try.underlying24
  obtain ⟨i, e21, wi⟩ := (hl 21 (by decide)).int_inv (k := .u64) Try.underlying24
  rw [extract_two hs', e20, e21]
  have := bounds_u32 wm
  exact (order_calls _ (by simp [hs']) s i m h (wf_u64 ws) (wf_u64 wi) (by omega)).mono fun _ _ e => e.1

set_option maxRecDepth 100000 in
theorem lifted (os : Os) (started : os.Started) (H : Type) (enc : TypeId × Value → H) :
    ReturnsInHanded {} Try.checked os 4 .any (Rows.reputeOrderSpec.pre6 enc Try.prog Try.f4 Rows.reputeOrderRow.domain false) (Rows.reputeOrderSpec.post enc Try.prog Try.f4 false true false false) := by
  refine returnsInHanded_of_change (C := Try.checked) own started (by kernel_rfl) Try.func4
    (ChangeSpec.witness6 (enc := enc) (C := Try.checked) false ⟨#[], #[.agg (Array.replicate 20 (.int .u8 0) ++ #[.int .u64 0, .int .u64 0]), .int .u32 0], []⟩ 8 (by kernel_rfl) (by kernel_rfl) (by kernel_rfl) (by kernel_rfl)) ?_
  intro W base args ds gs before hval0 hW hcnd _
  have hval : ∀ (j : Nat) t v, Try.f4.params[j]? = some t → args[j]? = some v → Value.okWide Try.prog W .any base t v := hval0
  have hW' := hW
  obtain ⟨p, q, hA0, hV, rfl, hfz, hnd⟩ := hW
  have hA : DataW.TrodAll enc Try.prog W 0 (fun _ => true) true Try.f4.params.toList args.toList ds p := hA0
  rw [Try.params4] at hA hval
  have hcall := law_calls (P := Try.prog) (spare := fun _ => true) (fun _ => rfl) (F := 4) (ts := [26, 31]) (r := .any) (b0 := base) (by kernel_rfl) law (fun j t v h1 h2 => hval j t v (by simpa using h1) (by simpa using h2)) hA
  refine hcall.mono fun e W' ⟨he, bel⟩ => ?_
  subst he
  have hT := trodAll_below laidOut bel [26, 31] args.toList ds p (by intro t ht; simp only [List.mem_cons, List.not_mem_nil, or_false] at ht; rcases ht with rfl | rfl <;> exact ⟨by kernel_rfl, of_decide_eq_true (by kernel_rfl)⟩) hA
  obtain ⟨v0, vs0, d0, ds0, p0, q0, hargs, rfl, rfl, h0, r0⟩ := trodAll_cons hA
  obtain ⟨v1, vs1, d1, ds1, p1, q1, rfl, rfl, rfl, h1, r1⟩ := trodAll_cons r0
  obtain ⟨rfl, rfl, rfl⟩ := trodAll_nil r1
  obtain ⟨rfl, rfl⟩ := trodVars_none hV
  exact ⟨_, rfl, _, _, _, [], _, [], hW', trodAll_mk1 (shut_bool Try.underlying4 _), hT, rfl, bel.frame _, fun h => by cases h⟩

/-- the statement -/
theorem proved : Rows.ReputeOrderSaid :=
  OpenClaim.holds_of_wide 4 Try.f4 rfl rfl rfl rfl rfl rfl rfl ⟨rfl, rfl, rfl, rfl, rfl⟩ rfl rfl rfl rfl rfl (by kernel_rfl) Try.func4 (by kernel_rfl)
    (of_decide_eq_true (by kernel_rfl)) (by unfold Func.isWrapper; first | (rw [if_pos (by decide +kernel)]; kernel_rfl) | (rw [if_neg (by decide +kernel)]; exact ⟨rfl, rfl⟩))
    (fun os started H enc _ => lifted os started H enc)

#print axioms proved
end Go.Proofs.Ytibkpodkogclbaa.ReputeOrder
