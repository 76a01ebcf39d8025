import Derived.Test.YtchknbminoipiaaRepE
set_option linter.unusedSimpArgs false
set_option linter.unusedVariables false
namespace Go.Proofs
open Go Go.Am

set_option maxRecDepth 10000 in
set_option maxHeartbeats 4000000 in
theorem counts_law (s : Sl Bool) (a b : Addr20) (h : AH) :
    ACalls Try.prog 3 #[slV encBo s, .agg (encAddr a).toArray, .agg (encAddr b).toArray] h (fun v h' => v = .bool true ∧ h' = h) := by
  have encM : ∀ x : Addr20, (encAddr x).toArray = ((x.toList.map fun b => (b.toNat : Int)).map (Value.int .u8)).toArray := fun x => by rw [← encAddr_map]
  have enc20 : ∀ x : Addr20, (encAddr x).toArray.size = 20 := fun x => by rw [encM]; simp
  have encB : ∀ x : Addr20, (encAddr x).toArray.all isByte = true := fun x => by rw [encM]; simp [isByte]
  obtain ⟨A, hA⟩ : ∃ A, A = (encAddr a).toArray := ⟨_, rfl⟩
  obtain ⟨B, hB⟩ : ∃ B, B = (encAddr b).toArray := ⟨_, rfl⟩
  have hA20 : A.size = 20 := by rw [hA]; exact enc20 a
  have hB20 : B.size = 20 := by rw [hB]; exact enc20 b
  have bA : A.all isByte = true := by rw [hA]; exact encB a
  have bB : B.all isByte = true := by rw [hB]; exact encB b
  have hA2 : A.extract 0 20 = A := by rw [Array.extract_eq_self_of_le]; omega
  have hB2 : B.extract 0 20 = B := by rw [Array.extract_eq_self_of_le]; omega
  have hab : ∀ x y, abinOp Try.prog .eql 24 x y (.agg A) (.agg B) = some (.bool (decide (a = b))) := fun x y => by rw [hA, hB]; exact abin_eqlAddr Try.rowK24 a b
  have hff : ∀ x y, abinOp Try.prog .eql 30 x y (.agg (fame B 0 0)) (.agg (fame B 0 0)) = some (.bool true) := fun x y => by rw [hB, encM]; exact fame_eq _ (by simp) 0 0
  have hne : a ≠ b → cmpV A B ≠ 0 := by
    intro hn hc
    apply hn
    have e : ∀ x : Addr20, (encAddr x).toArray = (x.toList.map fun b => Value.int .u8 b.toNat).toArray := fun x => rfl
    rw [hA, hB, e, e] at hc
    have := cmpV_zero (by simp) hc
    exact Vector.toList_inj.1 this
  have opl : ∀ (C : Array Value) (es : Nat) (rw : Bool), C.all isByte = true → ∀ (σ : Nat → Nat) (L : Nat), ORen σ L (.cells C es rw) (.cells C es rw) := fun C es rw hC σ L => oren_plain (by
    rw [Array.all_eq_true] at hC ⊢
    intro i hi
    have := hC i hi
    cases hv : C[i] <;> rw [hv] at this <;> first | rfl | cases this)
  rw [← hA, ← hB]
  refine ACalls.of_ay Try.func3 rfl Try.ntmps3 ⟨_, _, rfl, rfl⟩ ?_; simp only [List.length_cons, List.length_nil, Nat.reduceAdd, Nat.reduceSub, List.replicate_succ, List.replicate_zero, List.cons_append, List.nil_append]
  by_cases hle : s.l.length ≤ 60
  · have hle' : ¬ (60 : Int) < ((s.l.length : Nat) : Int) := by omega
    simp (implicitDefEqProofs := false) only [go_sem, Nat.reduceAdd, Nat.reduceSub, Nat.reduceMul, Nat.reduceLT, Nat.reduceLeDiff, Nat.reduceEqDiff, Nat.reduceBEq, Nat.reduceBNe, Nat.reducePow, Int.reduceBEq, Int.reduceBNe, Int.reduceEq, Int.reduceLT, Int.reduceLE, Int.reduceNeg, Int.reduceToNat, Int.reduceMul, Int.reduceAdd, Int.reduceSub, Int.reducePow, Int.reduceFDiv, reduceCtorEq, reduceIte, hle']
    refine astep_call (known_calls _) ?_
    simp (implicitDefEqProofs := false) only [go_sem, Nat.reduceAdd, Nat.reduceSub, Nat.reduceMul, Nat.reduceLT, Nat.reduceLeDiff, Nat.reduceEqDiff, Nat.reduceBEq, Nat.reduceBNe, Nat.reducePow, Int.reduceBEq, Int.reduceBNe, Int.reduceEq, Int.reduceLT, Int.reduceLE, Int.reduceNeg, Int.reduceToNat, Int.reduceMul, Int.reduceAdd, Int.reduceSub, Int.reducePow, Int.reduceFDiv, reduceCtorEq, reduceIte]
    refine AWP.loopI (fun k : Nat => s.l.length - k) (fun k => [slV encBo s, junk, junk, junk, .pointer (some ⟨h.length, 0, none⟩), .pointer (some ⟨h.length + 1, 0, none⟩), junk, bkV (h.length + 2) k, .int .u64 ((sc s.l k : Nat) : Int), .int .i64 (k : Nat), junk, junk, junk, junk, junk, junk, junk, junk, junk, junk, junk, junk, junk, junk, junk, junk, junk, junk, junk, junk, junk, junk, junk, junk, junk, junk, junk, junk, junk, junk, junk, junk, junk, junk, junk, junk, junk, junk, junk, junk, junk, junk, junk, junk, junk, junk, junk, junk, junk, junk, junk, junk, junk, junk, junk, junk, junk, junk, junk]) (fun k => h ++ [.cells A 0 true, .cells B 0 true, bkO A k (sc s.l k)]) (fun k => k ≤ s.l.length) 0 (Nat.zero_le _) ?_ ?_
    · have e : h ++ [AObj.cells A 0 true, .cells B 0 true, bkO A 0 (sc s.l 0)] = (h ++ [AObj.cells A 0 true, .cells B 0 true]) ++ [.dead] := by rw [List.append_assoc]; rfl
      have g : ∀ x : Array Value, Eases Try.prog h x (h ++ [AObj.cells A 0 true, .cells B 0 true]) x (h ++ [AObj.cells A 0 true, .cells B 0 true, bkO A 0 (sc s.l 0)]) := fun x => by rw [e]; exact Eases.ghost
      refine Eases.trans ?_ (g _)
      refine Keeps.easeL (by
        intro o ho
        simp only [List.mem_cons, List.not_mem_nil, or_false] at ho
        rcases ho with rfl | rfl
        · exact opl A 0 true bA _ _
        · exact opl B 0 true bB _ _) ?_
      repeat (first | exact Keeps.nil | refine Keeps.junk _ ?_ | refine Keeps.keep (by first | exact .plain _ rfl | exact (Tree.slV tree_encBo _).ren | exact .ptr _ _ _ (by simp) rfl | exact .plain _ rfl) ?_)
    · intro k hk
      have hc := sc_le s.l k
      by_cases hlt : k < s.l.length
      · have hw1 : IntKind.i64.wrap ((k : Int) + 1) = ((k + 1 : Nat) : Int) := by rw [wrap_i64_of _ (by omega) (by omega), ofNat_succ']
        have hw2 : IntKind.u64.wrap (((sc s.l k : Nat) : Int) + 1) = ((sc s.l k + 1 : Nat) : Int) := by rw [wrap_u64_of _ (by omega) (by omega), ofNat_succ']
        have hsc := sc_succ hlt
        cases hb : s.l[k] with
        | true =>
          rw [hb] at hsc
          simp (implicitDefEqProofs := false) only [go_sem, Nat.reduceAdd, Nat.reduceSub, Nat.reduceMul, Nat.reduceLT, Nat.reduceLeDiff, Nat.reduceEqDiff, Nat.reduceBEq, Nat.reduceBNe, Nat.reducePow, Int.reduceBEq, Int.reduceBNe, Int.reduceEq, Int.reduceLT, Int.reduceLE, Int.reduceNeg, Int.reduceToNat, Int.reduceMul, Int.reduceAdd, Int.reduceSub, Int.reducePow, Int.reduceFDiv, reduceCtorEq, reduceIte, hlt, hb, hA20, hA2]
          refine astep_calls (see1 A hA20 bA k (sc s.l k) hc (by omega) (n := h.length + 2) (at_new h _ 2)) ?_
          intro v h1 hR
          obtain ⟨rfl, hh⟩ := hR
          simp only [List.append_assoc, List.cons_append, List.nil_append, List.length_append, List.length_cons, List.length_nil] at hh
          subst hh
          simp (implicitDefEqProofs := false) only [go_sem, Nat.reduceAdd, Nat.reduceSub, Nat.reduceMul, Nat.reduceLT, Nat.reduceLeDiff, Nat.reduceEqDiff, Nat.reduceBEq, Nat.reduceBNe, Nat.reducePow, Int.reduceBEq, Int.reduceBNe, Int.reduceEq, Int.reduceLT, Int.reduceLE, Int.reduceNeg, Int.reduceToNat, Int.reduceMul, Int.reduceAdd, Int.reduceSub, Int.reducePow, Int.reduceFDiv, reduceCtorEq, reduceIte, hlt, hb, hA20, hA2, hw1, hw2]
          refine ⟨k + 1, by omega, by omega, ?_⟩
          rw [hsc]
          refine pick3 3 (by decide) ⟨rfl, opl A 0 true bA⟩ ⟨rfl, opl B 0 true bB⟩ ⟨_, rfl, by rw [bkO, if_neg (by omega)]; exact oren_fame bA⟩ ?_
          repeat (first | exact KeepsS.nil | refine KeepsS.junk _ ?_ | refine KeepsS.keep (by first | exact .plain _ rfl | exact (Tree.slV tree_encBo _).ren | exact ptr_pick (k := 0) (by omega) rfl | exact ptr_pick (k := 1) (by omega) rfl | exact bkV_pick (by omega) rfl) ?_)
        | false =>
          rw [hb] at hsc
          simp (implicitDefEqProofs := false) only [go_sem, Nat.reduceAdd, Nat.reduceSub, Nat.reduceMul, Nat.reduceLT, Nat.reduceLeDiff, Nat.reduceEqDiff, Nat.reduceBEq, Nat.reduceBNe, Nat.reducePow, Int.reduceBEq, Int.reduceBNe, Int.reduceEq, Int.reduceLT, Int.reduceLE, Int.reduceNeg, Int.reduceToNat, Int.reduceMul, Int.reduceAdd, Int.reduceSub, Int.reducePow, Int.reduceFDiv, reduceCtorEq, reduceIte, hlt, hb, hA20, hA2]
          refine astep_calls (inc1 A hA20 bA k (sc s.l k) hc (by omega) (n := h.length + 2) (at_new h _ 2)) ?_
          intro v h1 hR
          obtain ⟨rfl, hh⟩ := hR
          simp only [List.append_assoc, List.cons_append, List.nil_append, List.length_append, List.length_cons, List.length_nil] at hh
          subst hh
          simp (implicitDefEqProofs := false) only [go_sem, Nat.reduceAdd, Nat.reduceSub, Nat.reduceMul, Nat.reduceLT, Nat.reduceLeDiff, Nat.reduceEqDiff, Nat.reduceBEq, Nat.reduceBNe, Nat.reducePow, Int.reduceBEq, Int.reduceBNe, Int.reduceEq, Int.reduceLT, Int.reduceLE, Int.reduceNeg, Int.reduceToNat, Int.reduceMul, Int.reduceAdd, Int.reduceSub, Int.reducePow, Int.reduceFDiv, reduceCtorEq, reduceIte, hlt, hb, hA20, hA2, hw1, hw2]
          refine ⟨k + 1, by omega, by omega, ?_⟩
          rw [hsc]
          refine pick3 3 (by decide) ⟨rfl, opl A 0 true bA⟩ ⟨rfl, opl B 0 true bB⟩ ⟨_, rfl, by rw [bkO, if_neg (by omega)]; exact oren_fame bA⟩ ?_
          repeat (first | exact KeepsS.nil | refine KeepsS.junk _ ?_ | refine KeepsS.keep (by first | exact .plain _ rfl | exact (Tree.slV tree_encBo _).ren | exact ptr_pick (k := 0) (by omega) rfl | exact ptr_pick (k := 1) (by omega) rfl | exact bkV_pick (by omega) rfl) ?_)
      · have hie : k = s.l.length := by omega
        subst hie
        simp (implicitDefEqProofs := false) only [go_sem, Nat.reduceAdd, Nat.reduceSub, Nat.reduceMul, Nat.reduceLT, Nat.reduceLeDiff, Nat.reduceEqDiff, Nat.reduceBEq, Nat.reduceBNe, Nat.reducePow, Int.reduceBEq, Int.reduceBNe, Int.reduceEq, Int.reduceLT, Int.reduceLE, Int.reduceNeg, Int.reduceToNat, Int.reduceMul, Int.reduceAdd, Int.reduceSub, Int.reducePow, Int.reduceFDiv, reduceCtorEq, reduceIte, hlt, hA20, hA2]
        obtain ⟨n, hn⟩ : ∃ n, n = s.l.length := ⟨_, rfl⟩
        obtain ⟨c, hcd⟩ : ∃ c, c = sc s.l s.l.length := ⟨_, rfl⟩
        rw [← hcd, ← hn]
        rw [← hcd, ← hn] at hc
        rw [← hn] at hle
        have w1 : IntKind.u64.wrap ((n : Nat) : Int) = ((n : Nat) : Int) := wrap_u64_of _ (by omega) (by omega)
        have w2 : IntKind.u64.wrap (((n : Nat) : Int) - ((c : Nat) : Int)) = ((n - c : Nat) : Int) := by rw [wrap_u64_of _ (by omega) (by omega)]; omega
        refine astep_call (find1 A hA20 bA n c hc (n := h.length + 2) (at_new h _ 2)) ?_
        simp (implicitDefEqProofs := false) only [go_sem, Nat.reduceAdd, Nat.reduceSub, Nat.reduceMul, Nat.reduceLT, Nat.reduceLeDiff, Nat.reduceEqDiff, Nat.reduceBEq, Nat.reduceBNe, Nat.reducePow, Int.reduceBEq, Int.reduceBNe, Int.reduceEq, Int.reduceLT, Int.reduceLE, Int.reduceNeg, Int.reduceToNat, Int.reduceMul, Int.reduceAdd, Int.reduceSub, Int.reducePow, Int.reduceFDiv, reduceCtorEq, reduceIte, fame_mk, fame_all hA20, fame_addr hA20, fame_size hA20, fame_seen hA20, fame_incl hA20, fame0_size, fame_zblit hA20, zeros_size22, fame0_blit hA20, fame0_addr hA20, fame_set_seen hA20, fame_set_incl hA20, hA20, bA, hA2, List.size_toArray, fame_all hB20, fame_addr hB20, fame_size hB20, fame_seen hB20, fame_incl hB20, fame_zblit hB20, fame0_blit hB20, fame0_addr hB20, fame_set_seen hB20, fame_set_incl hB20, hB20, bB, hB2]
        by_cases he : a = b
        · have hBA : B = A := by rw [hA, hB, he]
          rw [hBA]
          refine astep_call (find1 A hA20 bA n c hc (n := h.length + 2) (at_new h _ 2)) ?_
          rw [hBA] at hab
          simp (implicitDefEqProofs := false) only [go_sem, Nat.reduceAdd, Nat.reduceSub, Nat.reduceMul, Nat.reduceLT, Nat.reduceLeDiff, Nat.reduceEqDiff, Nat.reduceBEq, Nat.reduceBNe, Nat.reducePow, Int.reduceBEq, Int.reduceBNe, Int.reduceEq, Int.reduceLT, Int.reduceLE, Int.reduceNeg, Int.reduceToNat, Int.reduceMul, Int.reduceAdd, Int.reduceSub, Int.reducePow, Int.reduceFDiv, reduceCtorEq, reduceIte, fame_mk, fame_all hA20, fame_addr hA20, fame_size hA20, fame_seen hA20, fame_incl hA20, fame0_size, fame_zblit hA20, zeros_size22, fame0_blit hA20, fame0_addr hA20, fame_set_seen hA20, fame_set_incl hA20, hA20, bA, hA2, List.size_toArray, w1, w2, hab, ← hn, decide_eq_true he]
          exact apost_tmp rfl rfl ⟨rfl, rfl⟩ _ _ rfl
        · refine astep_call (find2 A B hA20 bA hB20 bB (hne he) n c hc (n := h.length + 2) (at_new h _ 2)) ?_
          simp (implicitDefEqProofs := false) only [go_sem, Nat.reduceAdd, Nat.reduceSub, Nat.reduceMul, Nat.reduceLT, Nat.reduceLeDiff, Nat.reduceEqDiff, Nat.reduceBEq, Nat.reduceBNe, Nat.reducePow, Int.reduceBEq, Int.reduceBNe, Int.reduceEq, Int.reduceLT, Int.reduceLE, Int.reduceNeg, Int.reduceToNat, Int.reduceMul, Int.reduceAdd, Int.reduceSub, Int.reducePow, Int.reduceFDiv, reduceCtorEq, reduceIte, fame_mk, fame_all hA20, fame_addr hA20, fame_size hA20, fame_seen hA20, fame_incl hA20, fame0_size, fame_zblit hA20, zeros_size22, fame0_blit hA20, fame0_addr hA20, fame_set_seen hA20, fame_set_incl hA20, hA20, bA, hA2, List.size_toArray, fame_all hB20, fame_addr hB20, fame_size hB20, fame_seen hB20, fame_incl hB20, fame_zblit hB20, fame0_blit hB20, fame0_addr hB20, fame_set_seen hB20, fame_set_incl hB20, hB20, bB, hB2, w1, w2, hab, hff, ← hn, decide_eq_false he]
          exact apost_tmp rfl rfl ⟨rfl, rfl⟩ _ _ rfl
  · have hle' : (60 : Int) < ((s.l.length : Nat) : Int) := by omega
    simp (implicitDefEqProofs := false) only [go_sem, Nat.reduceAdd, Nat.reduceSub, Nat.reduceMul, Nat.reduceLT, Nat.reduceLeDiff, Nat.reduceEqDiff, Nat.reduceBEq, Nat.reduceBNe, Nat.reducePow, Int.reduceBEq, Int.reduceBNe, Int.reduceEq, Int.reduceLT, Int.reduceLE, Int.reduceNeg, Int.reduceToNat, Int.reduceMul, Int.reduceAdd, Int.reduceSub, Int.reducePow, Int.reduceFDiv, reduceCtorEq, reduceIte, hle']
    refine astep_call (known_calls _) ?_
    simp (implicitDefEqProofs := false) only [go_sem, Nat.reduceAdd, Nat.reduceSub, Nat.reduceMul, Nat.reduceLT, Nat.reduceLeDiff, Nat.reduceEqDiff, Nat.reduceBEq, Nat.reduceBNe, Nat.reducePow, Int.reduceBEq, Int.reduceBNe, Int.reduceEq, Int.reduceLT, Int.reduceLE, Int.reduceNeg, Int.reduceToNat, Int.reduceMul, Int.reduceAdd, Int.reduceSub, Int.reducePow, Int.reduceFDiv, reduceCtorEq, reduceIte]
    exact apost_tmp rfl rfl ⟨rfl, rfl⟩ _ _ rfl
end Go.Proofs
