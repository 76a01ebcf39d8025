/- The law ReputeFades: hours make nothing more, each takes something off what is above 23 and nothing else, and numbers that small ban nobody; for every input, no condition. -/
import Derived.Test.YtibkpodkogclbaaFades1
import Derived.Test.YtibkpodkogclbaaRows
import Derived.Test.YtibkpodkogclbaaAm26
set_option linter.unusedSimpArgs false
set_option linter.unusedVariables false
namespace Go.Proofs.Ytibkpodkogclbaa.ReputeFades
open Go Go.Am
open Go.ChangeShapes Go.WideShapes Go.ChangeAt Go.RowKit

theorem own : ownKnob Try.prog.godebug = none := by kernel_rfl
theorem laidOut : laidOutB Try.prog = true := by kernel_rfl
theorem flatFame : flat Try.prog 8 26 = some (List.replicate 20 (5) ++ [24, 24]) := by kernel_rfl

theorem law (h : AH) (vs : List Value) (_ : Try.prog.globals.size ≤ h.length) (_ : NoRW h) (ha : AArgs Try.prog h [26, 5] vs) : ACalls Try.prog 5 vs.toArray h (fun v _ => v = .bool true) := by
  obtain ⟨v, r, rfl, h0, hr⟩ := ha.cons_inv
  obtain ⟨v1, r, rfl, h1, hr⟩ := hr.cons_inv
  obtain rfl := hr.none_inv
  obtain ⟨cs, rfl, hs, hl⟩ := h0.agg_struct Try.underlying26 flatFame
  obtain ⟨m, rfl, wm⟩ := (h1.leaf_int Try.underlying5).int_inv Try.underlying5
  have hs' : cs.size = 20 + 2 := hs
  have bA : (cs.extract 0 20).all isByte = true := by
    rw [Array.all_eq_true]
    intro i hi
    have hi2 : i < 20 := by simp at hi; omega
    obtain ⟨n, e, _⟩ := (hl i (by simp; omega)).int_inv (k := .u8) (by
      have : (List.replicate 20 (5 : TypeId) ++ [24, 24]).getD i 0 = 5 := by
        rw [List.getD_eq_getElem?_getD, List.getElem?_append_left (by simp; omega), List.getElem?_replicate, if_pos hi2]; rfl
      rw [this]; exact Try.underlying5)
    have hi3 : i < cs.size := by omega
    have e2 : cs[i] = .int .u8 n := by simpa [Array.getD, hi3] using e
    simp [e2, isByte]
  obtain ⟨s, e20, ws⟩ := (hl 20 (by decide)).int_inv (k := .u64) Try.underlying24
  obtain ⟨i, e21, wi⟩ := (hl 21 (by decide)).int_inv (k := .u64) Try.underlying24
  rw [extract_two hs', e20, e21]
  have := bounds_u8 wm
  exact (fades_calls _ (by simp [hs']) bA s i m h (wf_u64 ws) (wf_u64 wi) (by omega)).mono fun _ _ e => e.1

set_option maxRecDepth 100000 in
theorem lifted (os : Os) (started : os.Started) (H : Type) (enc : TypeId × Value → H) :
    ReturnsInHanded {} Try.checked os 5 .any (Rows.reputeFadesSpec.pre6 enc Try.prog Try.f5 Rows.reputeFadesRow.domain false) (Rows.reputeFadesSpec.post enc Try.prog Try.f5 false true false false) := by
  refine returnsInHanded_of_change (C := Try.checked) own started (by kernel_rfl) Try.func5
    (ChangeSpec.witness6 (enc := enc) (C := Try.checked) false ⟨#[], #[.agg (Array.replicate 20 (.int .u8 0) ++ #[.int .u64 0, .int .u64 0]), .int .u8 0], []⟩ 8 (by kernel_rfl) (by kernel_rfl) (by kernel_rfl) (by kernel_rfl)) ?_
  intro W base args ds gs before hval0 hW hcnd _
  have hval : ∀ (j : Nat) t v, Try.f5.params[j]? = some t → args[j]? = some v → Value.okWide Try.prog W .any base t v := hval0
  have hW' := hW
  obtain ⟨p, q, hA0, hV, rfl, hfz, hnd⟩ := hW
  have hA : DataW.TrodAll enc Try.prog W 0 (fun _ => true) true Try.f5.params.toList args.toList ds p := hA0
  rw [Try.params5] at hA hval
  have hcall := law_calls (P := Try.prog) (spare := fun _ => true) (fun _ => rfl) (F := 5) (ts := [26, 5]) (r := .any) (b0 := base) (by kernel_rfl) law (fun j t v h1 h2 => hval j t v (by simpa using h1) (by simpa using h2)) hA
  refine hcall.mono fun e W' ⟨he, bel⟩ => ?_
  subst he
  have hT := trodAll_below laidOut bel [26, 5] args.toList ds p (by intro t ht; simp only [List.mem_cons, List.not_mem_nil, or_false] at ht; rcases ht with rfl | rfl <;> exact ⟨by kernel_rfl, of_decide_eq_true (by kernel_rfl)⟩) hA
  obtain ⟨v0, vs0, d0, ds0, p0, q0, hargs, rfl, rfl, h0, r0⟩ := trodAll_cons hA
  obtain ⟨v1, vs1, d1, ds1, p1, q1, rfl, rfl, rfl, h1, r1⟩ := trodAll_cons r0
  obtain ⟨rfl, rfl, rfl⟩ := trodAll_nil r1
  obtain ⟨rfl, rfl⟩ := trodVars_none hV
  exact ⟨_, rfl, _, _, _, [], _, [], hW', trodAll_mk1 (shut_bool Try.underlying4 _), hT, rfl, bel.frame _, fun h => by cases h⟩

/-- the statement -/
theorem proved : Rows.ReputeFadesSaid :=
  OpenClaim.holds_of_wide 5 Try.f5 rfl rfl rfl rfl rfl rfl rfl ⟨rfl, rfl, rfl, rfl, rfl⟩ rfl rfl rfl rfl rfl (by kernel_rfl) Try.func5 (by kernel_rfl)
    (of_decide_eq_true (by kernel_rfl)) (by unfold Func.isWrapper; first | (rw [if_pos (by decide +kernel)]; kernel_rfl) | (rw [if_neg (by decide +kernel)]; exact ⟨rfl, rfl⟩))
    (fun os started H enc _ => lifted os started H enc)

#print axioms proved
end Go.Proofs.Ytibkpodkogclbaa.ReputeFades
