import Derived.Test.YtlimncmlocojkaaDoorSha3
set_option linter.unusedSimpArgs false
set_option linter.unusedVariables false
/- a block, by the document -/
namespace Go.Proofs
open Go Go.Am

def keysL : List UInt32 := [1116352408, 1899447441, 3049323471, 3921009573, 961987163, 1508970993, 2453635748, 2870763221, 3624381080, 310598401, 607225278, 1426881987, 1925078388, 2162078206, 2614888103, 3248222580, 3835390401, 4022224774, 264347078, 604807628, 770255983, 1249150122, 1555081692, 1996064986, 2554220882, 2821834349, 2952996808, 3210313671, 3336571891, 3584528711, 113926993, 338241895, 666307205, 773529912, 1294757372, 1396182291, 1695183700, 1986661051, 2177026350, 2456956037, 2730485921, 2820302411, 3259730800, 3345764771, 3516065817, 3600352804, 4094571909, 275423344, 430227734, 506948616, 659060556, 883997877, 958139571, 1322822218, 1537002063, 1747873779, 1955562222, 2024104815, 2227730452, 2361852424, 2428436474, 2756734187, 3204031479, 3329325298]

set_option maxRecDepth 100000 in
set_option maxHeartbeats 8000000 in
theorem rkeys_calls (h : AH) :
    ACalls Tryd.prog 14 #[] h (fun v h' => v = slV enc32 (Sl.full keysL) ∧ h' = h) := by
  refine ACalls.of_ay Tryd.func14 rfl Tryd.ntmps14 ⟨_, _, rfl, rfl⟩ ?_; simp only [List.length_cons, List.length_nil, Nat.reduceAdd, Nat.reduceSub, List.replicate_succ, List.replicate_zero, List.cons_append, List.nil_append]
  simp (implicitDefEqProofs := false) only [go_sem, Nat.reduceAdd, Nat.reduceSub, Nat.reduceMul, Nat.reduceLT, Nat.reduceLeDiff, Nat.reduceEqDiff, Nat.reduceBEq, Nat.reduceBNe, Nat.reducePow, Int.reduceBEq, Int.reduceBNe, Int.reduceEq, Int.reduceLT, Int.reduceLE, Int.reduceNeg, Int.reduceToNat, Int.reduceMul, Int.reduceAdd, Int.reduceSub, Int.reducePow, Int.reduceFDiv, reduceCtorEq, reduceIte]
  refine astep_rep (y := some (.slice (some ⟨h.length, 0, none⟩) 64 64, h ++ [.cells (flatV enc32 keysL) 1 true])) (by kernel_rfl) ?_
  simp (implicitDefEqProofs := false) only [go_sem, Nat.reduceAdd, Nat.reduceSub, Nat.reduceMul, Nat.reduceLT, Nat.reduceLeDiff, Nat.reduceEqDiff, Nat.reduceBEq, Nat.reduceBNe, Nat.reducePow, Int.reduceBEq, Int.reduceBNe, Int.reduceEq, Int.reduceLT, Int.reduceLE, Int.reduceNeg, Int.reduceToNat, Int.reduceMul, Int.reduceAdd, Int.reduceSub, Int.reducePow, Int.reduceFDiv, reduceCtorEq, reduceIte]
  have hb : (h ++ [AObj.cells (flatV enc32 keysL) 1 true])[h.length]? = some (.cells (flatV enc32 keysL) 1 true) := at_new0 _ _
  have hrf := Rf.full (cap := 64) hb (dieNew_dead (h0 := h) (h := h ++ [AObj.cells (flatV enc32 keysL) 1 true]) (b := h.length) (Nat.le_refl _) (by simp)) (Nat.le_refl _)
  exact apost_tree (by rw [aresults_tmp rfl, getD_lit]; rfl) (keeps_append _ _) hrf (.slV tree_enc32 _) ⟨rfl, rfl⟩
end Go.Proofs
