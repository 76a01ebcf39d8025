/- The law ShaSums: the program's hash of any bytes is the document's, and the bytes stay; the package variable 'keys' holds what the program's text lays (the tied card); no other condition. -/
import Derived.Test.YtlimncmlocojkaaDoorSha6
import Derived.Test.YtlimncmlocojkaaDoorSha7
import Derived.Test.YtlimncmlocojkaaDoorRows
import Derived.Test.YtlimncmlocojkaaDoorCards
import Derived.Test.YtlimncmlocojkaaDoorTie
import Derived.Test.YtlimncmlocojkaaDoorAm43x
set_option linter.unusedSimpArgs false
set_option linter.unusedVariables false
set_option linter.constructorNameAsVariable false
namespace Go.Proofs.YtlimncmlocojkaaDoor.ShaSums
open Go Go.Am
open Go.ChangeShapes Go.WideShapes Go.ChangeAt Go.RowKit

theorem sumB_calls (l : List UInt8) {n : Nat} (hn : l.length = n) (hs : l.length < 2 ^ 32) (h : AH) (b es0 : Nat) (hb : h[b]? = some (.cells (flatV encU8 l) es0 true)) (hk : h[0]? = some (.cells (flatV enc32 keysL) 0 false)) (hbg : b ≠ 0) :
    ACalls Tryd.prog 5 #[.slice (some ⟨b, 0, none⟩) n n] h (fun v h' => v = .agg (encWord (rdW (bytesS (hashS keysL l)))).toArray ∧ h' = h.set b .dead) := by
  subst hn
  refine ACalls.freeze (args1 := #[slV encU8 (Sl.full l)]) HFz.set rfl (fun i => ?_) (sum_calls keysL rfl (Sl.full l) hs (h.set b .dead) (by rw [List.getElem?_set_ne hbg]; exact hk))
  cases i with
  | zero => exact Rf.full hb (List.getElem?_set_self (List.getElem?_eq_some_iff.1 hb).1) (Nat.le_refl _)
  | succ i => simp; exact .same _

def abcW : Word4 := #v[12975151322591401389, 12683088330831133340, 4702110809750118947, 13436514500253700074]
theorem abc_hash : rdW (bytesS (hashS keysL [97, 98, 99])) = abcW := by kernel_rfl

set_option maxRecDepth 10000 in
set_option maxHeartbeats 4000000 in
theorem known_calls (h : AH) (hk : h[0]? = some (.cells (flatV enc32 keysL) 0 false)) :
    ACalls Tryd.prog 4 #[] h (fun v h' => v = .bool true ∧ h' = h) := by
  have hgl : 0 < h.length := (List.getElem?_eq_some_iff.1 hk).1
  refine ACalls.of_ay Tryd.func4 rfl Tryd.ntmps4 ⟨_, _, rfl, rfl⟩ ?_; simp only [List.length_cons, List.length_nil, Nat.reduceAdd, Nat.reduceSub, List.replicate_succ, List.replicate_zero, List.cons_append, List.nil_append]
  have hz3 : zeros #[Value.int IntKind.u8 0] 3 = [Value.int .u8 0, .int .u8 0, .int .u8 0].toArray := by kernel_rfl
  have hcv : aconvert Tryd.prog (h ++ [.cells #[Value.int .u8 97, .int .u8 98, .int .u8 99] 1 true]) 22 22 (.slice (some ⟨h.length, 0, none⟩) 3 3) = some (.slice (some ⟨h.length, 0, none⟩) 3 3, h ++ [.cells #[Value.int .u8 97, .int .u8 98, .int .u8 99] 1 true]) :=
    aconv_sl Tryd.underlying22 Tryd.underlying5 (at_new0 _ _) (by decide)
  simp (implicitDefEqProofs := false) only [go_sem, Nat.reduceAdd, Nat.reduceSub, Nat.reduceMul, Nat.reduceLT, Nat.reduceLeDiff, Nat.reduceEqDiff, Nat.reduceBEq, Nat.reduceBNe, Nat.reducePow, Int.reduceBEq, Int.reduceBNe, Int.reduceEq, Int.reduceLT, Int.reduceLE, Int.reduceNeg, Int.reduceToNat, Int.reduceMul, Int.reduceAdd, Int.reduceSub, Int.reducePow, Int.reduceFDiv, reduceCtorEq, reduceIte, hz3, List.setIfInBounds_toArray, List.size_toArray, hcv]
  refine astep_call (sumB_calls [97, 98, 99] (n := 3) rfl (by decide) _ h.length 1 (at_new0 _ _) (by rw [at_front hgl]; exact hk) (by omega)) ?_
  have hz4 : (Array.replicate 4 (Value.int IntKind.u64 0)) = [Value.int .u64 0, .int .u64 0, .int .u64 0, .int .u64 0].toArray := by kernel_rfl
  have hab : (#[.int .u64 12975151322591401389, .int .u64 12683088330831133340, .int .u64 4702110809750118947, .int .u64 13436514500253700074] : Array Value) = (encWord abcW).toArray := by kernel_rfl
  simp (implicitDefEqProofs := false) only [go_sem, Nat.reduceAdd, Nat.reduceSub, Nat.reduceMul, Nat.reduceLT, Nat.reduceLeDiff, Nat.reduceEqDiff, Nat.reduceBEq, Nat.reduceBNe, Nat.reducePow, Int.reduceBEq, Int.reduceBNe, Int.reduceEq, Int.reduceLT, Int.reduceLE, Int.reduceNeg, Int.reduceToNat, Int.reduceMul, Int.reduceAdd, Int.reduceSub, Int.reducePow, Int.reduceFDiv, reduceCtorEq, reduceIte, abc_hash, set_new0, hz4, List.setIfInBounds_toArray, List.size_toArray, hab, abin_eqlWord Tryd.rowK26]
  exact apost_tmp rfl rfl ⟨rfl, rfl⟩ _ _ rfl

set_option maxRecDepth 10000 in
set_option maxHeartbeats 4000000 in
theorem sums_law (s : Sl UInt8) (h : AH) (hk : h[0]? = some (.cells (flatV enc32 keysL) 0 false)) :
    ACalls Tryd.prog 3 #[slV encU8 s] h (fun v h' => v = .bool true ∧ h' = h) := by
  have hgl : 0 < h.length := (List.getElem?_eq_some_iff.1 hk).1
  refine ACalls.of_aw Tryd.func3 rfl Tryd.ntmps3 ⟨_, _, rfl, rfl⟩ ?_
  simp only [List.length_cons, List.length_nil, Nat.reduceAdd, Nat.reduceSub, List.replicate_succ, List.replicate_zero, List.cons_append, List.nil_append]
  by_cases hle : s.l.length ≤ 1500
  · have hle' : ¬ (1500 : Int) < ((s.l.length : Nat) : Int) := by omega
    refine AWP.seq (ay_sound _ _ _ _ ?_)
    simp (implicitDefEqProofs := false) only [go_sem, Nat.reduceAdd, Nat.reduceSub, Nat.reduceMul, Nat.reduceLT, Nat.reduceLeDiff, Nat.reduceEqDiff, Nat.reduceBEq, Nat.reduceBNe, Nat.reducePow, Int.reduceBEq, Int.reduceBNe, Int.reduceEq, Int.reduceLT, Int.reduceLE, Int.reduceNeg, Int.reduceToNat, Int.reduceMul, Int.reduceAdd, Int.reduceSub, Int.reducePow, Int.reduceFDiv, reduceCtorEq, reduceIte, hle']
    refine AWP.seq (ay_sound _ _ _ _ ?_)
    simp (implicitDefEqProofs := false) only [go_sem, Nat.reduceAdd, Nat.reduceSub, Nat.reduceMul, Nat.reduceLT, Nat.reduceLeDiff, Nat.reduceEqDiff, Nat.reduceBEq, Nat.reduceBNe, Nat.reducePow, Int.reduceBEq, Int.reduceBNe, Int.reduceEq, Int.reduceLT, Int.reduceLE, Int.reduceNeg, Int.reduceToNat, Int.reduceMul, Int.reduceAdd, Int.reduceSub, Int.reducePow, Int.reduceFDiv, reduceCtorEq, reduceIte, hle']
    refine AWP.seq (ay_sound _ _ _ _ ?_)
    simp (implicitDefEqProofs := false) only [go_sem, Nat.reduceAdd, Nat.reduceSub, Nat.reduceMul, Nat.reduceLT, Nat.reduceLeDiff, Nat.reduceEqDiff, Nat.reduceBEq, Nat.reduceBNe, Nat.reducePow, Int.reduceBEq, Int.reduceBNe, Int.reduceEq, Int.reduceLT, Int.reduceLE, Int.reduceNeg, Int.reduceToNat, Int.reduceMul, Int.reduceAdd, Int.reduceSub, Int.reducePow, Int.reduceFDiv, reduceCtorEq, reduceIte]
    refine AWP.seq (ay_sound _ _ _ _ ?_)
    by_cases hs0 : s.l.length = 0
    · have hsn : s.l = [] := List.length_eq_zero_iff.1 hs0
      simp (implicitDefEqProofs := false) only [go_sem, Nat.reduceAdd, Nat.reduceSub, Nat.reduceMul, Nat.reduceLT, Nat.reduceLeDiff, Nat.reduceEqDiff, Nat.reduceBEq, Nat.reduceBNe, Nat.reducePow, Int.reduceBEq, Int.reduceBNe, Int.reduceEq, Int.reduceLT, Int.reduceLE, Int.reduceNeg, Int.reduceToNat, Int.reduceMul, Int.reduceAdd, Int.reduceSub, Int.reducePow, Int.reduceFDiv, reduceCtorEq, reduceIte, hs0]
      refine AWP.ease (a1 := ([slV encU8 s, junk, junk, slV encU8 (Sl.app s.l), junk, junk, junk, junk, junk, junk, junk, junk, junk, junk, junk, junk, junk, junk, junk, junk, junk, junk, junk, junk, junk]).toArray) (h1 := h) ?_ (ay_sound _ _ _ _ ?_)
      · rw [hsn]
        refine Keeps.ease0 ?_
        repeat (first | exact Keeps.nil | refine Keeps.junk _ ?_ | refine Keeps.keep (by first | exact .plain _ rfl | exact (Tree.slV tree_encU8 _).ren) ?_)
      · simp (implicitDefEqProofs := false) only [go_sem, Nat.reduceAdd, Nat.reduceSub, Nat.reduceMul, Nat.reduceLT, Nat.reduceLeDiff, Nat.reduceEqDiff, Nat.reduceBEq, Nat.reduceBNe, Nat.reducePow, Int.reduceBEq, Int.reduceBNe, Int.reduceEq, Int.reduceLT, Int.reduceLE, Int.reduceNeg, Int.reduceToNat, Int.reduceMul, Int.reduceAdd, Int.reduceSub, Int.reducePow, Int.reduceFDiv, reduceCtorEq, reduceIte]
        refine astep_call (known_calls _ hk) ?_
        simp (implicitDefEqProofs := false) only [go_sem, Nat.reduceAdd, Nat.reduceSub, Nat.reduceMul, Nat.reduceLT, Nat.reduceLeDiff, Nat.reduceEqDiff, Nat.reduceBEq, Nat.reduceBNe, Nat.reducePow, Int.reduceBEq, Int.reduceBNe, Int.reduceEq, Int.reduceLT, Int.reduceLE, Int.reduceNeg, Int.reduceToNat, Int.reduceMul, Int.reduceAdd, Int.reduceSub, Int.reducePow, Int.reduceFDiv, reduceCtorEq, reduceIte]
        refine astep_call (sum_calls keysL rfl (Sl.app s.l) (by rw [app_l]; omega) _ hk) ?_
        simp (implicitDefEqProofs := false) only [go_sem, Nat.reduceAdd, Nat.reduceSub, Nat.reduceMul, Nat.reduceLT, Nat.reduceLeDiff, Nat.reduceEqDiff, Nat.reduceBEq, Nat.reduceBNe, Nat.reducePow, Int.reduceBEq, Int.reduceBNe, Int.reduceEq, Int.reduceLT, Int.reduceLE, Int.reduceNeg, Int.reduceToNat, Int.reduceMul, Int.reduceAdd, Int.reduceSub, Int.reducePow, Int.reduceFDiv, reduceCtorEq, reduceIte]
        refine astep_call (rsum_calls s (by omega) _) ?_
        simp (implicitDefEqProofs := false) only [go_sem, Nat.reduceAdd, Nat.reduceSub, Nat.reduceMul, Nat.reduceLT, Nat.reduceLeDiff, Nat.reduceEqDiff, Nat.reduceBEq, Nat.reduceBNe, Nat.reducePow, Int.reduceBEq, Int.reduceBNe, Int.reduceEq, Int.reduceLT, Int.reduceLE, Int.reduceNeg, Int.reduceToNat, Int.reduceMul, Int.reduceAdd, Int.reduceSub, Int.reducePow, Int.reduceFDiv, reduceCtorEq, reduceIte, aconv_slV Tryd.underlying22 Tryd.underlying5 Tryd.underlying9]
        exact apost_tmp0 rfl rfl ⟨rfl, rfl⟩ _ rfl
    · have hb1 : 2 * s.l.length ≤ 281474976710464 := by omega
      have hb2 : s.l.length < 4611686018427387904 := by omega
      simp (implicitDefEqProofs := false) only [go_sem, Nat.reduceAdd, Nat.reduceSub, Nat.reduceMul, Nat.reduceLT, Nat.reduceLeDiff, Nat.reduceEqDiff, Nat.reduceBEq, Nat.reduceBNe, Nat.reducePow, Int.reduceBEq, Int.reduceBNe, Int.reduceEq, Int.reduceLT, Int.reduceLE, Int.reduceNeg, Int.reduceToNat, Int.reduceMul, Int.reduceAdd, Int.reduceSub, Int.reducePow, Int.reduceFDiv, reduceCtorEq, reduceIte, hs0, hb1, hb2]
      refine AWP.ease (a1 := ([slV encU8 s, junk, junk, slV encU8 (Sl.app s.l), junk, junk, junk, junk, junk, junk, junk, junk, junk, junk, junk, junk, junk, junk, junk, junk, junk, junk, junk, junk, junk]).toArray) (h1 := h) ?_ (ay_sound _ _ _ _ ?_)
      · have hap : slV encU8 (Sl.app s.l) = slV encU8 (Sl.full s.l) := by
          have : s.l ≠ [] := by intro hh; rw [hh] at hs0; exact hs0 rfl
          cases hl : s.l with
          | nil => exact absurd hl this
          | cons x l => rfl
        rw [hap]
        refine KeepsF.ease ?_
        repeat (first | exact KeepsF.nil | refine KeepsF.junk _ ?_ | refine KeepsF.keep (.same _) (.slV tree_encU8 _) ?_ | refine KeepsF.keep (Rf.full (l := s.l) (at_new0 _ _) (dieNew_dead (by omega) (by simp)) (Nat.le_refl _)) (.slV tree_encU8 _) ?_ | refine KeepsF.keep (.same _) (.plain _ rfl) ?_)
      · simp (implicitDefEqProofs := false) only [go_sem, Nat.reduceAdd, Nat.reduceSub, Nat.reduceMul, Nat.reduceLT, Nat.reduceLeDiff, Nat.reduceEqDiff, Nat.reduceBEq, Nat.reduceBNe, Nat.reducePow, Int.reduceBEq, Int.reduceBNe, Int.reduceEq, Int.reduceLT, Int.reduceLE, Int.reduceNeg, Int.reduceToNat, Int.reduceMul, Int.reduceAdd, Int.reduceSub, Int.reducePow, Int.reduceFDiv, reduceCtorEq, reduceIte]
        refine astep_call (known_calls _ hk) ?_
        simp (implicitDefEqProofs := false) only [go_sem, Nat.reduceAdd, Nat.reduceSub, Nat.reduceMul, Nat.reduceLT, Nat.reduceLeDiff, Nat.reduceEqDiff, Nat.reduceBEq, Nat.reduceBNe, Nat.reducePow, Int.reduceBEq, Int.reduceBNe, Int.reduceEq, Int.reduceLT, Int.reduceLE, Int.reduceNeg, Int.reduceToNat, Int.reduceMul, Int.reduceAdd, Int.reduceSub, Int.reducePow, Int.reduceFDiv, reduceCtorEq, reduceIte]
        refine astep_call (sum_calls keysL rfl (Sl.app s.l) (by rw [app_l]; omega) _ hk) ?_
        simp (implicitDefEqProofs := false) only [go_sem, Nat.reduceAdd, Nat.reduceSub, Nat.reduceMul, Nat.reduceLT, Nat.reduceLeDiff, Nat.reduceEqDiff, Nat.reduceBEq, Nat.reduceBNe, Nat.reducePow, Int.reduceBEq, Int.reduceBNe, Int.reduceEq, Int.reduceLT, Int.reduceLE, Int.reduceNeg, Int.reduceToNat, Int.reduceMul, Int.reduceAdd, Int.reduceSub, Int.reducePow, Int.reduceFDiv, reduceCtorEq, reduceIte]
        refine astep_call (rsum_calls s (by omega) _) ?_
        simp (implicitDefEqProofs := false) only [go_sem, Nat.reduceAdd, Nat.reduceSub, Nat.reduceMul, Nat.reduceLT, Nat.reduceLeDiff, Nat.reduceEqDiff, Nat.reduceBEq, Nat.reduceBNe, Nat.reducePow, Int.reduceBEq, Int.reduceBNe, Int.reduceEq, Int.reduceLT, Int.reduceLE, Int.reduceNeg, Int.reduceToNat, Int.reduceMul, Int.reduceAdd, Int.reduceSub, Int.reducePow, Int.reduceFDiv, reduceCtorEq, reduceIte, aconv_slV Tryd.underlying22 Tryd.underlying5 Tryd.underlying9]
        exact apost_tmp0 rfl rfl ⟨rfl, rfl⟩ _ rfl
  · have hle' : (1500 : Int) < ((s.l.length : Nat) : Int) := by omega
    refine ay_sound _ _ _ _ ?_
    simp (implicitDefEqProofs := false) only [go_sem, Nat.reduceAdd, Nat.reduceSub, Nat.reduceMul, Nat.reduceLT, Nat.reduceLeDiff, Nat.reduceEqDiff, Nat.reduceBEq, Nat.reduceBNe, Nat.reducePow, Int.reduceBEq, Int.reduceBNe, Int.reduceEq, Int.reduceLT, Int.reduceLE, Int.reduceNeg, Int.reduceToNat, Int.reduceMul, Int.reduceAdd, Int.reduceSub, Int.reducePow, Int.reduceFDiv, reduceCtorEq, reduceIte, hle']
    exact apost_tmp0 rfl rfl ⟨rfl, rfl⟩ _ rfl

theorem own : ownKnob Tryd.prog.godebug = none := by kernel_rfl
theorem laidOut : laidOutB Tryd.prog = true := by kernel_rfl
theorem flatU : flat Tryd.prog 8 5 = some [5] := by kernel_rfl
def keysI : List Int := keysL.map fun b => ((b.toNat : Nat) : Int)
theorem keys_datum : (Rows.laid_quaestor_sha_keys : DataW Unit) = .agg (keysI.map fun m => .lit (.int .u32 m)) := by kernel_rfl
theorem gK : Tryd.prog.globalNamed "quaestor/sha.keys" = some 0 := by kernel_rfl
theorem tK : (Tryd.prog.globals[0]?).map (·.type) = some 38 := by kernel_rfl
theorem keys_plain : (flatV enc32 keysL).all plain1 = true := plain_32 keysL
theorem keys_cells : (flatV enc32 keysL) = (keysI.map (Value.int .u32)).toArray := by rw [flat_32, keysI, List.map_map]; rfl

theorem of_laid {W : World} (h : laidMetH Tryd.prog Rows.shaSumsRow.laid W) : ∃ elem fr, W.heap[0]? = some (.cells (flatV enc32 keysL) elem fr) := by
  rw [MakeChecks.laidMetH_plain _ _ _ (by kernel_rfl)] at h
  obtain ⟨ps, ⟨g0, t0, cs0, f0, p0, q0, hg0, ht0, hv0, hd0, _⟩, _⟩ := h
  obtain rfl := Option.some.inj (gK.symm.trans hg0)
  obtain rfl := Option.some.inj (tK.symm.trans ht0)
  rw [keys_datum] at hd0
  have hc := trod_nums Tryd.underlying38 Tryd.underlying29 (by kernel_rfl) (by kernel_rfl) hd0
  have hcs : cs0 = flatV enc32 keysL := by rw [keys_cells, ← hc]
  simp only [World.var?, gK, Option.bind_some] at hv0
  split at hv0
  · rename_i cs elem fr hW
    cases hv0
    exact ⟨elem, fr, by rw [hW, hcs]⟩
  · cases hv0

theorem law (h : AH) (vs : List Value) (_ : Tryd.prog.globals.size ≤ h.length) (_ : NoRW h) (hk : h[0]? = some (.cells (flatV enc32 keysL) 0 false)) (ha : TArgs Tryd.prog [22] vs) : ACalls Tryd.prog 3 vs.toArray h (fun v _ => v = .bool true) := by
  obtain ⟨v0, r0, rfl, h0, ha⟩ := ha.cons_inv
  obtain rfl := ha.none_inv
  obtain ⟨s, rfl, hok⟩ := h0.dec (by kernel_rfl) (Decs.slice Tryd.underlying22 flatU (fun p => length_encU8 p) (Decs.u8 Tryd.underlying5))
  exact (sums_law s h hk).mono fun _ _ e => e.1

/-- what the program's own text leaves meets the condition -/
theorem door_met (os : Os) (args : Array Value) : laidMetH Tryd.prog Rows.shaSumsRow.laid ((World.doorLaid Tryd.prog 400 os).forCall (fun _ _ => 0) ⟨#[], args, []⟩).memory :=
  laidMetH_of_parts3 (fuel := 8) (laidMet_of_run' 8 (by kernel_rfl) (by kernel_rfl)) (by kernel_rfl) (by kernel_rfl)

set_option maxRecDepth 100000 in
theorem lifted (os : Os) (started : os.Started) (H : Type) (enc : TypeId × Value → H) :
    ReturnsInHanded {} Tryd.checked os 3 .any (fun w args => (Rows.shaSumsSpec.pre enc Tryd.prog Tryd.f3 [] false w args ∧ laidMetH Tryd.prog Rows.shaSumsRow.laid w) ∧ sizedMet enc Tryd.prog Tryd.f3 (OpenSpec.ofChange Rows.shaSumsSpec) false w args)
      (Rows.shaSumsSpec.post enc Tryd.prog Tryd.f3 false true false false) := by
  refine returnsInHanded_of_change_and (C := Tryd.checked) (X := fun w _ => laidMetH Tryd.prog Rows.shaSumsRow.laid w) (fun _ _ _ hh h => h.of_heap hh) own started (by kernel_rfl) Tryd.func3
    (ChangeSpec.witness_shaped (enc := enc) (C := Tryd.checked) (os := os) (X := fun w _ => laidMetH Tryd.prog Rows.shaSumsRow.laid w) false (World.doorLaid Tryd.prog 400 os) #[.slice none 0 0] 8 rfl (World.shaped_of_RefB (by kernel_rfl) (by kernel_rfl)) (by kernel_rfl) (by kernel_rfl) (by kernel_rfl) (door_met os _)) ?_
  intro W base args ds gs before hval0 hW _ _ hL _
  have hval : ∀ (j : Nat) t v, Tryd.f3.params[j]? = some t → args[j]? = some v → Value.okWide Tryd.prog W .any base t v := hval0
  have hW' := hW
  obtain ⟨p, q, hA0, hV, rfl, hfz, hnd⟩ := hW
  have hA : DataW.TrodAll enc Tryd.prog W 0 (fun _ => true) true Tryd.f3.params.toList args.toList ds p := hA0
  rw [Tryd.params3] at hA hval
  have hcall := law_callsG (P := Tryd.prog) laidOut (spare := fun _ => true) (fun _ => rfl) (F := 3) (ts := [22]) (r := .any) (b0 := base) (by kernel_rfl) keys_plain (of_laid hL) (by decide +kernel) law (fun j t v h1 h2 => hval j t v (by simpa using h1) (by simpa using h2)) hA
  refine hcall.mono fun e W' ⟨he, bel⟩ => ?_
  subst he
  have hT := trodAll_below laidOut bel [22] args.toList ds p (by intro t ht; simp only [List.mem_cons, List.not_mem_nil, or_false] at ht; subst ht; exact ⟨by kernel_rfl, of_decide_eq_true (by kernel_rfl)⟩) hA
  obtain ⟨v0, vs0, d0, ds0, p0, q0, hargs, rfl, rfl, h0, r0⟩ := trodAll_cons hA
  obtain ⟨rfl, rfl, rfl⟩ := trodAll_nil r0
  obtain ⟨rfl, rfl⟩ := trodVars_none hV
  exact ⟨_, rfl, _, _, _, [], _, [], hW', trodAll_mk1 (shut_bool Tryd.underlying4 _), hT, rfl, bel.frame _, fun h => by cases h⟩

/-- the row -/
theorem row_proved : Rows.ShaSumsSaid :=
  OpenClaim.holds_of_wide 3 Tryd.f3 rfl rfl rfl rfl rfl rfl rfl ⟨rfl, rfl, rfl, rfl, rfl⟩ rfl rfl rfl rfl rfl (by kernel_rfl) Tryd.func3 (by kernel_rfl)
    (of_decide_eq_true (by kernel_rfl)) (by unfold Func.isWrapper; first | (rw [if_pos (by decide +kernel)]; kernel_rfl) | (rw [if_neg (by decide +kernel)]; exact ⟨rfl, rfl⟩))
    (fun os started H enc _ => lifted os started H enc)

/-- the statement: the tied card -/
theorem proved : Rows.ShaSumsCardSaid :=
  Claim7.holds_tied_plain_at .later [] [.data] true (true, "9cac0ad246180fde5f5737c3c4ec0f220022c3c3a21fa8ab07f73ea64350a075") false
    row_proved (fun _ h => by cases h) (by kernel_rfl) (fun _ h => by cases h) shaSums_row_tie rfl ⟨rfl, rfl⟩ (by kernel_rfl) rfl
    (fun f fn hf hfn => by
      obtain rfl : f = 3 := Option.some.inj ((show Tryd.prog.funcNamed "quaestor/quaestorlaw03.ShaSums" = some 3 by kernel_rfl).symm.trans hf) |>.symm
      obtain rfl : fn = Tryd.f3 := (Option.some.inj (Tryd.func3.symm.trans hfn)).symm
      exact ⟨by kernel_rfl, fun j t ht => by
        rw [Tryd.params3] at ht
        have hm : t ∈ [22] := by simpa using Array.mem_of_getElem? ht
        have hall : ([22].all fun u => !Tryd.prog.wantsStandIn u) = true := by kernel_rfl
        exact (show Tryd.prog.wantsStandIn t = false by simpa using List.all_eq_true.1 hall t hm)⟩)
    (by kernel_rfl)

#print axioms proved
end Go.Proofs.YtlimncmlocojkaaDoor.ShaSums
