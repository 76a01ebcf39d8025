import Derived.Test.YtcnnccalglgnbaaG9
set_option linter.unusedSimpArgs false
set_option linter.unusedVariables false
set_option maxRecDepth 100000
/- what is known -/
namespace Go.Proofs
open Go Go.Am
def kA : Addr20 := #v[1, 0, 0, 0, 0, 0, 0, 0, 0, 0, 0, 0, 0, 0, 0, 0, 0, 0, 0, 0]
def kB : Addr20 := #v[2, 0, 0, 0, 0, 0, 0, 0, 0, 0, 0, 0, 0, 0, 0, 0, 0, 0, 0, 0]
def kE : Ent := ⟨kA, 0, #v[5, 0, 0, 0], Sl.none, Sl.none⟩
def w1 : Word4 := #v[1, 0, 0, 0]
def w3 : Word4 := #v[3, 0, 0, 0]
def w7 : Word4 := #v[7, 0, 0, 0]
def kS0 : WS := WS.new [kE]
def kS1 : WS := WS.paid kS0 kA kB w3
def kS2 : WS := WS.marked kS1
def kS3 : WS := WS.setSlot kS2 ⟨kA, w1⟩ w7
def kS4 : WS := WS.touch kS3 kB
def kS5 : WS := WS.back kS4 0 2
def kS6 : WS := WS.touch kS5 kB
theorem k_s0 : WS.short kS0 kA w3 = false := by kernel_rfl
theorem k_s1 : WS.short kS1 kA w3 = true := by kernel_rfl
theorem k_next : kS1.next = 0 := by kernel_rfl
theorem k_t3 : (kS3.touched kB).getD 0 = 0 := by kernel_rfl
theorem k_was : WS.was kS4 ⟨kA, w1⟩ = zeroW := by kernel_rfl
theorem k_t5 : (kS5.touched kB).getD 0 = 0 := by kernel_rfl
theorem k_slot : (kS6.slots ⟨kA, w1⟩).getD zeroW = zeroW := by kernel_rfl
theorem k_there : thereB ((kS6.all kB).getD Acc.zero) = true := by kernel_rfl
theorem k_idx : idxM 1 kS4.marks = ((0 : Nat) : Int) := by kernel_rfl
theorem k_mlen : 0 < kS4.marks.length := by decide +kernel
theorem k_m : kS4.marks[0].2 = ((2 : Nat) : Int) := by kernel_rfl
theorem k_j0 : kS0.journal.length = 0 := by kernel_rfl
theorem k_j1 : kS1.journal.length = 2 := by kernel_rfl
theorem k_j2 : kS2.journal.length = 2 := by kernel_rfl
theorem k_j3 : kS3.journal.length = 3 := by kernel_rfl
theorem k_j4 : kS4.journal.length = 4 := by kernel_rfl
theorem k_j5 : kS5.journal.length = 2 := by kernel_rfl
theorem k_m1 : kS1.marks.length = 0 := by kernel_rfl
theorem k_m4 : kS4.marks.length = 1 := by kernel_rfl
theorem k_fits : fitsL kS4.logs.length (kS4.journal.drop 2).reverse := by
  have h1 : (kS4.journal.drop 2).reverse.map (fun s => decide (0 ≤ s.kind ∧ s.kind ≤ 6 ∧ s.kind ≠ 5)) = [true, true] := by kernel_rfl
  generalize (kS4.journal.drop 2).reverse = l at h1
  rcases l with _ | ⟨a, _ | ⟨b, _ | ⟨c, l⟩⟩⟩
  · simp at h1
  · simp at h1
  · simp only [List.map_cons, List.map_nil, List.cons.injEq, decide_eq_true_eq, and_true] at h1
    obtain ⟨⟨a1, a2, a3⟩, b1, b2, b3⟩ := h1
    exact ⟨a1, a2, fun h => absurd h a3, b1, b2, fun h => absurd h b3, trivial⟩
  · simp at h1
theorem k_ne : kA ≠ kB := by decide +kernel
theorem k_all (x : Addr20) : kS6.all x = if x = kB then kS6.all kB else if x = kA then kS6.all kA else none := by
  by_cases h1 : x = kB
  · rw [if_pos h1, h1]
  · rw [if_neg h1]
    by_cases h2 : x = kA
    · rw [if_pos h2, h2]
    · rw [if_neg h2]
      show (if x = kB then _ else if x = kA then _ else (if x = kA then _ else none)) = none
      rw [if_neg h1, if_neg h2, if_neg h2]
theorem k_slots (p : Plc) : kS6.slots p = if p = ⟨kA, w1⟩ then some zeroW else none := by
  by_cases h : p = ⟨kA, w1⟩
  · rw [if_pos h, h]; kernel_rfl
  · rw [if_neg h]
    show (if p = ⟨kA, w1⟩ then _ else if p = ⟨kA, w1⟩ then _ else (if p.addr = kA then none else none)) = none
    rw [if_neg h, if_neg h]
    simp
theorem k_ents {L : List Ent} (h : IsEnts kS6 L) : L.length = 2 := by
  have hd := nodup_rising h.rises
  have hm : ∀ a, a ∈ L.map (·.addr) ↔ a ∈ [kA, kB] := fun a => by
    have h1 := h.all a
    rw [List.mem_map, h1]
    constructor
    · rintro (h2 | ⟨k, v, h2, h3⟩)
      · rw [k_all] at h2
        by_cases e1 : a = kB
        · simp [e1]
        · rw [if_neg e1] at h2
          by_cases e2 : a = kA
          · simp [e2]
          · rw [if_neg e2] at h2
            have : (Acc.zero).there = false := by decide
            rw [Option.getD_none, this] at h2; cases h2
      · rw [k_slots] at h2
        split at h2
        · exact absurd (Option.some.inj h2).symm h3
        · cases h2
    · intro h2
      left
      simp only [List.mem_cons, List.not_mem_nil, or_false] at h2
      rcases h2 with rfl | rfl <;> kernel_rfl
  have n1 := nodup_len hd fun x hx => (hm x).1 hx
  have n2 := nodup_len (l := [kA, kB]) (by simp [k_ne]) fun x hx => (hm x).2 hx
  simp only [List.length_map, List.length_cons, List.length_nil] at n1 n2
  omega
theorem k_small : kS6.Small 2 := by
  refine ⟨⟨[kA, kB], by simp, fun x h => ?_⟩, ⟨[⟨kA, w1⟩], by simp, fun x h => ?_⟩⟩
  · rw [k_all] at h
    by_cases e1 : x = kB
    · simp [e1]
    · rw [if_neg e1] at h
      by_cases e2 : x = kA
      · simp [e2]
      · rw [if_neg e2] at h; exact absurd rfl h
  · rw [k_slots] at h
    split at h
    · simp [*]
    · exact absurd rfl h
def kAc : Array Value := #[.int .u64 0, .int .u64 5, .int .u64 0, .int .u64 0, .int .u64 0, .slice none 0 0, .slice none 0 0]
theorem kAc_eq : blit (#[Value.int .u64 0] ++ (#[Value.int .u64 0, .int .u64 0, .int .u64 0, .int .u64 0] ++ #[Value.slice none 0 0, .slice none 0 0])) 1 [.int .u64 5, .int .u64 0, .int .u64 0, .int .u64 0] = kAc := by kernel_rfl
theorem kAc_size : kAc.size = 7 := rfl
def kZ (a : Addr20) : Array Value := blit (Array.replicate 20 (Value.int .u8 0) ++ #[Value.int .u64 0, .int .u64 0, .int .u64 0, .int .u64 0, .int .u64 0, .slice none 0 0, .slice none 0 0]) 0 (encAddr a)
theorem kZ_size (a : Addr20) : (kZ a).size = 27 := by unfold kZ; rw [size_blit]; rfl
def kX : Array Value := (encEntV kE (.slice none 0 0) (.slice none 0 0)).toArray
theorem kX_eq : blit (kZ kA) 20 kAc.toList = kX := by kernel_rfl
theorem kX_size : kX.size = 27 := by kernel_rfl
/-- where the example stands -/
structure KAt (H h : AH) (I : WI) (S : WS) : Prop where
  w : WA h I S
  a : h[H.length]? = some (.cells (encAddr kA).toArray 0 true)
  b : h[H.length + 1]? = some (.cells (encAddr kB).toArray 0 true)
  rest : Am.Rest [] H h
  own : Gets [] H I.own
  n0 : H.length ∉ I.own
  n1 : H.length + 1 ∉ I.own
theorem KAt.next {H h h' : AH} {I I' : WI} {S S' : WS} (k : KAt H h I S) (ok : WOk Try.prog 26 78 h I h' I' S') : KAt H h' I' S' := by
  refine ⟨ok.at_, ok.rest.same _ _ k.a rfl k.n0, ok.rest.same _ _ k.b rfl k.n1, (k.rest.trans (O' := I.own) ok.rest (fun i hi => ?_)).cut (by simp), fun i hi => .inr ?_, fun hi => ?_, fun hi => ?_⟩
  · rcases k.own i hi with h | h
    · cases h
    · exact .inr h
  · rcases ok.gets i hi with h | h
    · rcases k.own i h with h | h
      · cases h
      · exact h
    · intro o ho
      by_cases ha : o.alive = true
      · have := h o (k.rest.same i o ho ha (by simp)); rw [this] at ha; cases ha
      · simpa using ha
  · rcases ok.gets _ hi with h | h
    · exact k.n0 h
    · have := h _ k.a; cases this
  · rcases ok.gets _ hi with h | h
    · exact k.n1 h
    · have := h _ k.b; cases this
theorem KAt.app {H h t : AH} {I : WI} {S : WS} (k : KAt H h I S) : KAt H (h ++ t) I S :=
  ⟨k.w.app, at_old k.a _, at_old k.b _, k.rest.trans (Rest.app (O := [])) (Gets.refl _ _), k.own, k.n0, k.n1⟩
theorem k_nil (x y : Operand) (b : Nat) : abinOp Try.prog .eql 37 x y (.pointer (some ⟨b, 0, none⟩)) (.pointer none) = some (.bool false) := by kernel_rfl
set_option maxHeartbeats 8000000 in
theorem known_calls (H : AH) : ACalls Try.prog 8 #[] H (fun v h' => v = .bool true ∧ Am.Rest [] H h') := by
  refine ACalls.of_ay Try.func8 rfl Try.ntmps8 ⟨_, _, rfl, .refl _ _⟩ ?_; simp only [List.length_cons, List.length_nil, Nat.reduceAdd, Nat.reduceSub, List.replicate_succ, List.replicate_zero, List.cons_append, List.nil_append]
  have bA : (Array.replicate 20 (Value.int .u8 0)).setIfInBounds 0 (.int .u8 1) = (encAddr kA).toArray := by kernel_rfl
  have bB : (Array.replicate 20 (Value.int .u8 0)).setIfInBounds 0 (.int .u8 2) = (encAddr kB).toArray := by kernel_rfl
  have bz : ∀ a : Addr20, blit (Array.replicate 20 (Value.int .u8 0)) 0 (encAddr a) = (encAddr a).toArray := fun a => blit_list (by rw [length_encAddr, Array.size_replicate])
  have sA : ∀ a : Addr20, (encAddr a).toArray.size = 20 := fun a => by simp [length_encAddr]
  have hZ : ∀ a : Addr20, blit (Array.replicate 20 (Value.int .u8 0) ++ #[Value.int .u64 0, .int .u64 0, .int .u64 0, .int .u64 0, .int .u64 0, .slice none 0 0, .slice none 0 0]) 0 (encAddr a) = kZ a := fun _ => rfl
  simp (implicitDefEqProofs := false) (maxSteps := 2000000) only [go_sem, Nat.reduceAdd, Nat.reduceSub, Nat.reduceMul, Nat.reduceLT, Nat.reduceLeDiff, Nat.reduceEqDiff, Nat.reduceBEq, Nat.reduceBNe, Nat.reducePow, Int.reduceBEq, Int.reduceBNe, Int.reduceEq, Int.reduceLT, Int.reduceLE, Int.reduceNeg, Int.reduceToNat, Int.reduceMul, Int.reduceAdd, Int.reduceSub, Int.reducePow, Int.reduceFDiv, reduceCtorEq, reduceIte, size_zeros, bA, bB, bz, sA, kAc_eq, kAc_size, hZ, kZ_size, kX_eq, kX_size]
  have hel : (H ++ [.cells (encAddr kA).toArray 0 true, .cells (encAddr kB).toArray 0 true, .cells kX 27 true])[H.length + 2]? = some (.cells kX 27 true) := by simp
  have hE : EntsAt (H ++ [.cells (encAddr kA).toArray 0 true, .cells (encAddr kB).toArray 0 true, .cells kX 27 true]) (H.length + 2) (.slice (some ⟨H.length + 2, 0, none⟩) 1 1) [H.length + 2] [(kE, .slice none 0 0, .slice none 0 0)] := by
    refine ⟨.inr ⟨H.length + 2, kX, 1, rfl, rfl, hel, kX_size, Nat.le_refl _, ?_⟩, by simp, fun x hx => ?_, fun x hx => ?_⟩
    · have : (1 * 27 : Nat) = kX.size := by rw [kX_size]
      show kX.extract 0 (1 * 27) = _
      rw [this, Array.extract_size]; rfl
    · rw [List.mem_singleton] at hx; subst hx; exact ⟨[], .nil, by simp⟩
    · rw [List.mem_singleton] at hx; subst hx; exact ⟨[], .nil, by simp⟩
  have hEs : EsIn (H ++ [.cells (encAddr kA).toArray 0 true, .cells (encAddr kB).toArray 0 true, .cells kX 27 true]) [H.length + 2] (.slice (some ⟨H.length + 2, 0, none⟩) 1 1) [kE] := by
    have := hE.reads (P := Try.prog) (tE := 22) (tEe := 35) (tS := 31) (tSe := 65) (tB := 30) (tStr := 9) Try.slc22 Try.tyc35 Try.slc31 Try.tyc65 Try.underlying30 Try.underlying5 Try.underlying9
    have e : List.range' (H.length + 2) ((H ++ [.cells (encAddr kA).toArray 0 true, .cells (encAddr kB).toArray 0 true, .cells kX 27 true] : AH).length - (H.length + 2)) = [H.length + 2] := by
      have : (H ++ [.cells (encAddr kA).toArray 0 true, .cells (encAddr kB).toArray 0 true, .cells kX 27 true] : AH).length - (H.length + 2) = 1 := by simp
      rw [this]; rfl
    rw [e] at this
    exact this
  refine astep_calls (new_calls hEs (fun i hi => by rw [List.mem_singleton] at hi; subst hi; exact ⟨_, hel, rfl⟩) (by simp) (fun x hx => by rw [List.mem_singleton] at hx; subst hx; exact Nat.two_pow_pos _)) ?_
  rintro v1 h1 ⟨I1, rfl, wa1, r1, g1⟩
  have k1 : KAt H h1 I1 kS0 := by
    refine ⟨wa1, r1.same _ _ (by simp) rfl (by simp), r1.same _ _ (by simp) rfl (by simp), (Rest.app (O := [])).trans r1 (Gets.refl _ _), fun i hi => .inr fun o ho => ?_, fun hi => ?_, fun hi => ?_⟩
    · rcases g1 i hi with h | h
      · cases h
      · exact h o (at_old ho _)
    · rcases g1 _ hi with h | h
      · cases h
      · have := h (.cells (encAddr kA).toArray 0 true) (by simp); cases this
    · rcases g1 _ hi with h | h
      · cases h
      · have := h (.cells (encAddr kB).toArray 0 true) (by simp); cases this
  have hw3 : (#[.int .u64 3, .int .u64 0, .int .u64 0, .int .u64 0] : Array Value) = (encWord w3).toArray := rfl
  have hw1 : (#[.int .u64 1, .int .u64 0, .int .u64 0, .int .u64 0] : Array Value) = (encWord w1).toArray := rfl
  have hw7 : (#[.int .u64 7, .int .u64 0, .int .u64 0, .int .u64 0] : Array Value) = (encWord w7).toArray := rfl
  simp (implicitDefEqProofs := false) (maxSteps := 2000000) only [go_sem, Nat.reduceAdd, Nat.reduceSub, Nat.reduceMul, Nat.reduceLT, Nat.reduceLeDiff, Nat.reduceEqDiff, Nat.reduceBEq, Nat.reduceBNe, Nat.reducePow, Int.reduceBEq, Int.reduceBNe, Int.reduceEq, Int.reduceLT, Int.reduceLE, Int.reduceNeg, Int.reduceToNat, Int.reduceMul, Int.reduceAdd, Int.reduceSub, Int.reducePow, Int.reduceFDiv, reduceCtorEq, reduceIte, k1.a, k1.b, k_nil, hw3]
  refine astep_calls (pay_calls kA kB w3 k1.w (by rw [k_j0]; omega)) ?_
  rintro v2 h2 ⟨hv2, I2, ok2⟩
  rw [k_s0] at hv2 ok2
  have k2 : KAt H h2 I2 kS1 := k1.next ok2
  have e2 : I2.b = I1.b := ok2.b
  simp (implicitDefEqProofs := false) (maxSteps := 2000000) only [go_sem, Nat.reduceAdd, Nat.reduceSub, Nat.reduceMul, Nat.reduceLT, Nat.reduceLeDiff, Nat.reduceEqDiff, Nat.reduceBEq, Nat.reduceBNe, Nat.reducePow, Int.reduceBEq, Int.reduceBNe, Int.reduceEq, Int.reduceLT, Int.reduceLE, Int.reduceNeg, Int.reduceToNat, Int.reduceMul, Int.reduceAdd, Int.reduceSub, Int.reducePow, Int.reduceFDiv, reduceCtorEq, reduceIte, hv2, k2.a, k2.b, hw3]
  have c3 := pay_calls kA kB w3 k2.w (by rw [k_j1]; omega)
  rw [e2] at c3
  refine astep_calls c3 ?_
  rintro v3 h3 ⟨hv3, I3, ok3⟩
  rw [k_s1] at hv3 ok3
  have k3 : KAt H h3 I3 kS1 := k2.next ok3
  have e3 : I3.b = I1.b := ok3.b.trans e2
  simp (implicitDefEqProofs := false) (maxSteps := 2000000) only [go_sem, Nat.reduceAdd, Nat.reduceSub, Nat.reduceMul, Nat.reduceLT, Nat.reduceLeDiff, Nat.reduceEqDiff, Nat.reduceBEq, Nat.reduceBNe, Nat.reducePow, Int.reduceBEq, Int.reduceBNe, Int.reduceEq, Int.reduceLT, Int.reduceLE, Int.reduceNeg, Int.reduceToNat, Int.reduceMul, Int.reduceAdd, Int.reduceSub, Int.reducePow, Int.reduceFDiv, reduceCtorEq, reduceIte, hv3, k3.a, k3.b]
  have c4 := mark_calls k3.w (by rw [k_j1]; omega) (by rw [k_m1]; omega) (by rw [k_next]; omega)
  rw [e3] at c4
  refine astep_calls c4 ?_
  rintro v4 h4 ⟨hv4, I4, ok4⟩
  rw [k_next] at hv4
  have k4 : KAt H h4 I4 kS2 := k3.next ok4
  have e4 : I4.b = I1.b := ok4.b.trans e3
  simp (implicitDefEqProofs := false) (maxSteps := 2000000) only [go_sem, Nat.reduceAdd, Nat.reduceSub, Nat.reduceMul, Nat.reduceLT, Nat.reduceLeDiff, Nat.reduceEqDiff, Nat.reduceBEq, Nat.reduceBNe, Nat.reducePow, Int.reduceBEq, Int.reduceBNe, Int.reduceEq, Int.reduceLT, Int.reduceLE, Int.reduceNeg, Int.reduceToNat, Int.reduceMul, Int.reduceAdd, Int.reduceSub, Int.reducePow, Int.reduceFDiv, reduceCtorEq, reduceIte, hv4, k4.a, k4.b, hw1, hw7]
  have c5 := setSlot_calls kA w1 w7 k4.w (by rw [k_j2]; omega)
  rw [e4] at c5
  refine astep_calls c5 ?_
  rintro v5 h5 ⟨hv5, I5, ok5⟩
  have k5 : KAt H h5 I5 kS3 := k4.next ok5
  have e5 : I5.b = I1.b := ok5.b.trans e4
  simp (implicitDefEqProofs := false) (maxSteps := 2000000) only [go_sem, Nat.reduceAdd, Nat.reduceSub, Nat.reduceMul, Nat.reduceLT, Nat.reduceLeDiff, Nat.reduceEqDiff, Nat.reduceBEq, Nat.reduceBNe, Nat.reducePow, Int.reduceBEq, Int.reduceBNe, Int.reduceEq, Int.reduceLT, Int.reduceLE, Int.reduceNeg, Int.reduceToNat, Int.reduceMul, Int.reduceAdd, Int.reduceSub, Int.reducePow, Int.reduceFDiv, reduceCtorEq, reduceIte, hv5, k5.a, k5.b]
  have c6 := touch_calls kB k5.w (by rw [k_j3]; omega)
  rw [e5, k_t3] at c6
  refine astep_calls c6 ?_
  rintro v6 h6 ⟨hv6, I6, ok6⟩
  rw [if_neg (show ¬ ((0 : Int) < 0) by omega)] at ok6
  have k6 : KAt H h6 I6 kS4 := k5.next ok6
  have e6 : I6.b = I1.b := ok6.b.trans e5
  simp (implicitDefEqProofs := false) (maxSteps := 2000000) only [go_sem, Nat.reduceAdd, Nat.reduceSub, Nat.reduceMul, Nat.reduceLT, Nat.reduceLeDiff, Nat.reduceEqDiff, Nat.reduceBEq, Nat.reduceBNe, Nat.reducePow, Int.reduceBEq, Int.reduceBNe, Int.reduceEq, Int.reduceLT, Int.reduceLE, Int.reduceNeg, Int.reduceToNat, Int.reduceMul, Int.reduceAdd, Int.reduceSub, Int.reducePow, Int.reduceFDiv, reduceCtorEq, reduceIte, hv6, k6.a, k6.b, hw1]
  have c7 := original_calls kA w1 k6.w
  rw [e6, k_was] at c7
  refine astep_calls c7 ?_
  rintro v7 h7 ⟨hv7, rfl⟩
  simp (implicitDefEqProofs := false) (maxSteps := 2000000) only [go_sem, Nat.reduceAdd, Nat.reduceSub, Nat.reduceMul, Nat.reduceLT, Nat.reduceLeDiff, Nat.reduceEqDiff, Nat.reduceBEq, Nat.reduceBNe, Nat.reducePow, Int.reduceBEq, Int.reduceBNe, Int.reduceEq, Int.reduceLT, Int.reduceLE, Int.reduceNeg, Int.reduceToNat, Int.reduceMul, Int.reduceAdd, Int.reduceSub, Int.reducePow, Int.reduceFDiv, reduceCtorEq, reduceIte, hv7, k6.a, k6.b]
  have k7 : KAt H (h7 ++ [.cells (encWord zeroW).toArray 0 true]) I6 kS4 := k6.app
  have n7 : h7.length ∉ I6.own := fun hm => by
    have := k6.w.holds.below _ (by rw [WI.own_lay]; exact hm)
    omega
  have a7 : (h7 ++ [AObj.cells (encWord zeroW).toArray 0 true])[h7.length]? = some (.cells (encWord zeroW).toArray 0 true) := by simp
  have c8 := back_calls k7.w (by rw [k_m4]; omega) (by rw [k_j4]; omega) 1 k_mlen k_idx k_m (by rw [k_j4]; omega) k_fits
  rw [e6] at c8
  refine astep_calls c8 ?_
  rintro v8 h8 ⟨hv8, I8, ok8⟩
  have k8 : KAt H h8 I8 kS5 := k7.next ok8
  have e8 : I8.b = I1.b := ok8.b.trans e6
  have a8 := ok8.rest.same _ _ a7 rfl n7
  have n8 : h7.length ∉ I8.own := fun hm => by
    rcases ok8.gets _ hm with h | h
    · exact n7 h
    · have := h _ a7; cases this
  simp (implicitDefEqProofs := false) (maxSteps := 2000000) only [go_sem, Nat.reduceAdd, Nat.reduceSub, Nat.reduceMul, Nat.reduceLT, Nat.reduceLeDiff, Nat.reduceEqDiff, Nat.reduceBEq, Nat.reduceBNe, Nat.reducePow, Int.reduceBEq, Int.reduceBNe, Int.reduceEq, Int.reduceLT, Int.reduceLE, Int.reduceNeg, Int.reduceToNat, Int.reduceMul, Int.reduceAdd, Int.reduceSub, Int.reducePow, Int.reduceFDiv, reduceCtorEq, reduceIte, hv8, k8.a, k8.b]
  obtain ⟨S5, hS5⟩ : ∃ S5, S5 = kS5 := ⟨_, rfl⟩
  have j5 : S5.journal.length = 2 := by rw [hS5]; exact k_j5
  have t5 : (S5.touched kB).getD 0 = 0 := by rw [hS5]; exact k_t5
  rw [← hS5] at k8
  have c9 := touch_calls kB k8.w (by rw [j5]; omega)
  rw [e8, t5, if_neg (show ¬ ((0 : Int) < 0) by omega)] at c9
  obtain ⟨S6, hS6⟩ : ∃ S6, S6 = WS.touch S5 kB := ⟨_, rfl⟩
  rw [← hS6] at c9
  have hS6' : S6 = kS6 := by rw [hS6, hS5]; rfl
  have t10 : (S6.slots ⟨kA, w1⟩).getD zeroW = zeroW := by rw [hS6']; exact k_slot
  have t11 : thereB ((S6.all kB).getD Acc.zero) = true := by rw [hS6']; exact k_there
  have t12 : S6.Small 2 := by rw [hS6']; exact k_small
  have t13 : ∀ L, IsEnts S6 L → L.length = 2 := fun L h => k_ents (by rw [← hS6']; exact h)
  clear hS6 hS6'
  refine astep_calls c9 ?_
  intro v9 h9 hh
  have hv9 := hh.1
  have ok9 := Classical.choose_spec hh.2
  have k9 := k8.next ok9
  have e9 : (Classical.choose hh.2).b = I1.b := ok9.b.trans e8
  have a9 := ok9.rest.same _ _ a8 rfl n8
  have hw0 : (#[.int .u64 0, .int .u64 0, .int .u64 0, .int .u64 0] : Array Value) = (encWord zeroW).toArray := rfl
  have hs1 : (encWord zeroW).set 0 (.int .u64 1) = encWord w1 := rfl
  simp (implicitDefEqProofs := false) (maxSteps := 2000000) only [go_sem, Nat.reduceAdd, Nat.reduceSub, Nat.reduceMul, Nat.reduceLT, Nat.reduceLeDiff, Nat.reduceEqDiff, Nat.reduceBEq, Nat.reduceBNe, Nat.reducePow, Int.reduceBEq, Int.reduceBNe, Int.reduceEq, Int.reduceLT, Int.reduceLE, Int.reduceNeg, Int.reduceToNat, Int.reduceMul, Int.reduceAdd, Int.reduceSub, Int.reducePow, Int.reduceFDiv, reduceCtorEq, reduceIte, hv9, k9.a, k9.b, a9, hw0, hs1]
  have c10 := slot_calls kA w1 k9.w
  rw [e9, t10] at c10
  refine astep_call c10 ?_
  simp (implicitDefEqProofs := false) (maxSteps := 2000000) only [go_sem, Nat.reduceAdd, Nat.reduceSub, Nat.reduceMul, Nat.reduceLT, Nat.reduceLeDiff, Nat.reduceEqDiff, Nat.reduceBEq, Nat.reduceBNe, Nat.reducePow, Int.reduceBEq, Int.reduceBNe, Int.reduceEq, Int.reduceLT, Int.reduceLE, Int.reduceNeg, Int.reduceToNat, Int.reduceMul, Int.reduceAdd, Int.reduceSub, Int.reducePow, Int.reduceFDiv, reduceCtorEq, reduceIte, k9.a, k9.b, a9, hw0]
  have c11 := thereW_calls kB k9.w
  rw [e9, t11] at c11
  refine astep_call c11 ?_
  simp (implicitDefEqProofs := false) (maxSteps := 2000000) only [go_sem, Nat.reduceAdd, Nat.reduceSub, Nat.reduceMul, Nat.reduceLT, Nat.reduceLeDiff, Nat.reduceEqDiff, Nat.reduceBEq, Nat.reduceBNe, Nat.reducePow, Int.reduceBEq, Int.reduceBNe, Int.reduceEq, Int.reduceLT, Int.reduceLE, Int.reduceNeg, Int.reduceToNat, Int.reduceMul, Int.reduceAdd, Int.reduceSub, Int.reducePow, Int.reduceFDiv, reduceCtorEq, reduceIte]
  have c12 := entries_calls k9.w (N := 2) (by omega) t12
  rw [e9] at c12
  refine astep_calls c12 ?_
  intro v10 h10 hh2
  have hl : alen Try.prog h10 22 v10 = some (.int .i64 2) ∧ Am.Rest [] H h10 := by
    obtain ⟨O, xs, x1, x2, x3⟩ := hh2
    refine ⟨?_, k9.rest.trans x3 (Gets.refl _ _)⟩
    have r := x1.reads (P := Try.prog) (tE := 22) (tEe := 35) (tS := 31) (tSe := 65) (tB := 30) (tStr := 9) Try.slc22 Try.tyc35 Try.slc31 Try.tyc65 Try.underlying30 Try.underlying5 Try.underlying9
    have := r.len h10 (Agr.refl _ _)
    rw [t13 _ x2] at this
    exact this
  simp (implicitDefEqProofs := false) (maxSteps := 2000000) only [go_sem, Nat.reduceAdd, Nat.reduceSub, Nat.reduceMul, Nat.reduceLT, Nat.reduceLeDiff, Nat.reduceEqDiff, Nat.reduceBEq, Nat.reduceBNe, Nat.reducePow, Int.reduceBEq, Int.reduceBNe, Int.reduceEq, Int.reduceLT, Int.reduceLE, Int.reduceNeg, Int.reduceToNat, Int.reduceMul, Int.reduceAdd, Int.reduceSub, Int.reducePow, Int.reduceFDiv, reduceCtorEq, reduceIte, hl.1]
  exact ⟨.bool true, .bool true, h10, rfl, .refl, rfl, hl.2⟩
end Go.Proofs

set_option linter.unusedSimpArgs false
set_option linter.unusedVariables false
set_option maxRecDepth 100000
/- no logs; calls that are handed in -/
namespace Go.Proofs
open Go Go.Am
set_option maxHeartbeats 4000000 in
theorem logs0_calls {H : AH} {I : WI} {S : WS} (w : WA H I S) (hl : S.logs = []) :
    ACalls Try.prog 27 #[.pointer (some ⟨I.b, 0, none⟩)] H (fun v h' => v = .slice none 0 0 ∧ h' = H) := by
  have hb := w.box
  unfold WI.cells at hb
  have ha : alen Try.prog H 59 (I.logs.val S.logs.length) = some (.int .i64 (S.logs.length : Nat)) := alen_row Try.slc59 w.logs
  have h0 : S.logs.length = 0 := by rw [hl]; rfl
  rw [h0] at ha hb
  refine ACalls.of_ay Try.func27 rfl Try.ntmps27 ⟨_, _, rfl, rfl⟩ ?_; simp only [List.length_cons, List.length_nil, Nat.reduceAdd, Nat.reduceSub, List.replicate_succ, List.replicate_zero, List.cons_append, List.nil_append]
  simp (implicitDefEqProofs := false) (maxSteps := 2000000) only [go_sem, Nat.reduceAdd, Nat.reduceSub, Nat.reduceMul, Nat.reduceLT, Nat.reduceLeDiff, Nat.reduceEqDiff, Nat.reduceBEq, Nat.reduceBNe, Nat.reducePow, Int.reduceBEq, Int.reduceBNe, Int.reduceEq, Int.reduceLT, Int.reduceLE, Int.reduceNeg, Int.reduceToNat, Int.reduceMul, Int.reduceAdd, Int.reduceSub, Int.reducePow, Int.reduceFDiv, reduceCtorEq, reduceIte, hb, ha]
  refine AWP.loopI (fun _ : Unit => 0) (fun _ => [junk, junk, junk, .slice none 0 0, junk, junk, junk, junk, junk, junk, .int .i64 0, .int .i64 0, junk, junk, junk, junk, junk, junk, junk, junk, junk, junk]) (fun _ => H) (fun _ => True) () trivial (KeepsJ.ease ?_) ?_
  · repeat (first | exact .nil | refine .keep _ ?_ | refine .junk _ ?_)
  rintro ⟨⟩ _
  simp (implicitDefEqProofs := false) (maxSteps := 2000000) only [go_sem, Nat.reduceAdd, Nat.reduceSub, Nat.reduceMul, Nat.reduceLT, Nat.reduceLeDiff, Nat.reduceEqDiff, Nat.reduceBEq, Nat.reduceBNe, Nat.reducePow, Int.reduceBEq, Int.reduceBNe, Int.reduceEq, Int.reduceLT, Int.reduceLE, Int.reduceNeg, Int.reduceToNat, Int.reduceMul, Int.reduceAdd, Int.reduceSub, Int.reducePow, Int.reduceFDiv, reduceCtorEq, reduceIte]
  exact ⟨.slice none 0 0, .slice none 0 0, H, rfl, .refl, rfl, rfl⟩
/-- a call that is handed in -/
structure Op10 where
  kind : UInt8
  a : Addr20
  b : Addr20
  key : Word4
  v : Word4
  n : UInt64
  data : Sl UInt8
def encOp10 (o : Op10) : List Value := .int .u8 o.kind.toNat :: (encAddr o.a ++ encAddr o.b ++ encWord o.key ++ encWord o.v ++ [.int .u64 o.n.toNat, slV encU8 o.data])
theorem length_encOp10 (o : Op10) : (encOp10 o).length = 51 := by simp [encOp10, length_encAddr, length_encWord]
theorem op_50 (o : Op10) : (encOp10 o)[50]? = some (slV encU8 o.data) := by simp [encOp10, List.getElem?_append, List.getElem?_cons, length_encAddr, length_encWord]
theorem load_op50 {l : List Op10} {i : Nat} (hi : i < l.length) : mkLoadF (flatV encOp10 l) (i * 51 + 50) (some (false, 1)) = some (slV encU8 l[i].data) :=
  (loadF_part (off := 50) (m := 1) length_encOp10 hi (by omega) (by omega)).trans (by rw [← op_50]; simp [mkLoadF])
attribute [go_sem] length_encOp10 load_op50
set_option maxHeartbeats 4000000 in
theorem heavy_calls (s : Sl Ent) (hs : s.l.length < 2 ^ 63) (hc : ∀ e ∈ s.l, e.code.l.length < 2 ^ 63 ∧ e.slots.l.length < 2 ^ 62) (t : Sl Op10) (ht : t.l.length < 2 ^ 63) (h : AH) :
    ACalls Try.prog 15 #[slV encEnt s, slV encOp10 t] h (fun v h' => ∃ b : Bool, v = .bool b ∧ (b = false → ents s.l ≤ 300 ∧ t.l.length ≤ 120) ∧ h' = h) := by
  refine ACalls.of_ay Try.func15 rfl Try.ntmps15 ⟨_, _, true, rfl, (fun h => by cases h), rfl⟩ ?_; simp only [List.length_cons, List.length_nil, Nat.reduceAdd, Nat.reduceSub, List.replicate_succ, List.replicate_zero, List.cons_append, List.nil_append]
  simp (implicitDefEqProofs := false) (maxSteps := 2000000) only [go_sem, Nat.reduceAdd, Nat.reduceSub, Nat.reduceMul, Nat.reduceLT, Nat.reduceLeDiff, Nat.reduceEqDiff, Nat.reduceBEq, Nat.reduceBNe, Nat.reducePow, Int.reduceBEq, Int.reduceBNe, Int.reduceEq, Int.reduceLT, Int.reduceLE, Int.reduceNeg, Int.reduceToNat, Int.reduceMul, Int.reduceAdd, Int.reduceSub, Int.reducePow, Int.reduceFDiv, reduceCtorEq, reduceIte]
  refine astep_calls (ents_calls s hs hc h) ?_
  rintro v1 h1 ⟨n, rfl, hn, rfl⟩
  by_cases hle : n ≤ 300
  · have hle' : ¬ ((300 : Int) < ((n : Nat) : Int)) := by omega
    by_cases hl2 : t.l.length ≤ 120
    · have hl2' : ¬ ((120 : Int) < ((t.l.length : Nat) : Int)) := by omega
      simp (implicitDefEqProofs := false) (maxSteps := 2000000) only [go_sem, Nat.reduceAdd, Nat.reduceSub, Nat.reduceMul, Nat.reduceLT, Nat.reduceLeDiff, Nat.reduceEqDiff, Nat.reduceBEq, Nat.reduceBNe, Nat.reducePow, Int.reduceBEq, Int.reduceBNe, Int.reduceEq, Int.reduceLT, Int.reduceLE, Int.reduceNeg, Int.reduceToNat, Int.reduceMul, Int.reduceAdd, Int.reduceSub, Int.reducePow, Int.reduceFDiv, reduceCtorEq, reduceIte, hle', hl2']
      refine AWP.loopI (fun i : Nat => t.l.length - i) (fun i => [junk, slV encOp10 t, junk, junk, junk, .int .i64 ((i : Nat) : Int), junk, junk, junk, junk, junk, junk, junk, junk, junk, junk, junk, junk, junk, junk, junk, junk, junk, junk, junk, junk, junk]) (fun _ => h1) (fun i => i ≤ t.l.length) 0 (Nat.zero_le _) (KeepsJ.ease ?_) ?_
      · repeat (first | exact .nil | refine .keep _ ?_ | refine .junk _ ?_)
      intro i hi
      by_cases hlt : i < t.l.length
      · have hlt' : ((i : Nat) : Int) < ((t.l.length : Nat) : Int) := by omega
        have hw1 : IntKind.i64.wrap ((i : Int) + 1) = ((i + 1 : Nat) : Int) := by rw [wrap_i64_of ((i : Int) + 1) (by omega) (by omega), ofNat_succ']
        by_cases hd : 300 < t.l[i].data.l.length
        · have hd' : (300 : Int) < ((t.l[i].data.l.length : Nat) : Int) := by omega
          simp (implicitDefEqProofs := false) (maxSteps := 2000000) only [go_sem, Nat.reduceAdd, Nat.reduceSub, Nat.reduceMul, Nat.reduceLT, Nat.reduceLeDiff, Nat.reduceEqDiff, Nat.reduceBEq, Nat.reduceBNe, Nat.reducePow, Int.reduceBEq, Int.reduceBNe, Int.reduceEq, Int.reduceLT, Int.reduceLE, Int.reduceNeg, Int.reduceToNat, Int.reduceMul, Int.reduceAdd, Int.reduceSub, Int.reducePow, Int.reduceFDiv, reduceCtorEq, reduceIte, hlt, hlt', hd']
          exact ⟨.bool true, .bool true, _, rfl, .refl, true, rfl, (fun h => by cases h), rfl⟩
        · have hd' : ¬ ((300 : Int) < ((t.l[i].data.l.length : Nat) : Int)) := by omega
          simp (implicitDefEqProofs := false) (maxSteps := 2000000) only [go_sem, Nat.reduceAdd, Nat.reduceSub, Nat.reduceMul, Nat.reduceLT, Nat.reduceLeDiff, Nat.reduceEqDiff, Nat.reduceBEq, Nat.reduceBNe, Nat.reducePow, Int.reduceBEq, Int.reduceBNe, Int.reduceEq, Int.reduceLT, Int.reduceLE, Int.reduceNeg, Int.reduceToNat, Int.reduceMul, Int.reduceAdd, Int.reduceSub, Int.reducePow, Int.reduceFDiv, reduceCtorEq, reduceIte, hlt, hlt', hd', hw1]
          refine ⟨i + 1, by omega, hlt, KeepsJ.ease ?_⟩
          repeat (first | exact .nil | refine .keep _ ?_ | refine .junk _ ?_)
      · have hlt' : ¬ ((i : Nat) : Int) < ((t.l.length : Nat) : Int) := by omega
        simp (implicitDefEqProofs := false) (maxSteps := 2000000) only [go_sem, Nat.reduceAdd, Nat.reduceSub, Nat.reduceMul, Nat.reduceLT, Nat.reduceLeDiff, Nat.reduceEqDiff, Nat.reduceBEq, Nat.reduceBNe, Nat.reducePow, Int.reduceBEq, Int.reduceBNe, Int.reduceEq, Int.reduceLT, Int.reduceLE, Int.reduceNeg, Int.reduceToNat, Int.reduceMul, Int.reduceAdd, Int.reduceSub, Int.reducePow, Int.reduceFDiv, reduceCtorEq, reduceIte, hlt, hlt']
        exact ⟨.bool false, .bool false, _, rfl, .refl, false, rfl, (fun _ => ⟨hn.1 hle, hl2⟩), rfl⟩
    · have hl2' : ((120 : Int) < ((t.l.length : Nat) : Int)) := by omega
      simp (implicitDefEqProofs := false) (maxSteps := 2000000) only [go_sem, Nat.reduceAdd, Nat.reduceSub, Nat.reduceMul, Nat.reduceLT, Nat.reduceLeDiff, Nat.reduceEqDiff, Nat.reduceBEq, Nat.reduceBNe, Nat.reducePow, Int.reduceBEq, Int.reduceBNe, Int.reduceEq, Int.reduceLT, Int.reduceLE, Int.reduceNeg, Int.reduceToNat, Int.reduceMul, Int.reduceAdd, Int.reduceSub, Int.reducePow, Int.reduceFDiv, reduceCtorEq, reduceIte, hle', hl2']
      exact ⟨.bool true, .bool true, _, rfl, .refl, true, rfl, (fun h => by cases h), rfl⟩
  · have hle' : ((300 : Int) < ((n : Nat) : Int)) := by omega
    simp (implicitDefEqProofs := false) (maxSteps := 2000000) only [go_sem, Nat.reduceAdd, Nat.reduceSub, Nat.reduceMul, Nat.reduceLT, Nat.reduceLeDiff, Nat.reduceEqDiff, Nat.reduceBEq, Nat.reduceBNe, Nat.reducePow, Int.reduceBEq, Int.reduceBNe, Int.reduceEq, Int.reduceLT, Int.reduceLE, Int.reduceNeg, Int.reduceToNat, Int.reduceMul, Int.reduceAdd, Int.reduceSub, Int.reducePow, Int.reduceFDiv, reduceCtorEq, reduceIte, hle']
    exact ⟨.bool true, .bool true, _, rfl, .refl, true, rfl, (fun h => by cases h), rfl⟩
end Go.Proofs

set_option linter.unusedSimpArgs false
set_option linter.unusedVariables false
set_option maxRecDepth 100000
/- fresh transactions -/
namespace Go.Proofs
open Go Go.Am
theorem op_a (o : Op10) : (encOp10 o).toArray.extract 1 21 = (encAddr o.a).toArray := by
  have := mid_part (a := [.int .u8 o.kind.toNat]) (b := encAddr o.a) (c := encAddr o.b ++ encWord o.key ++ encWord o.v ++ [.int .u64 o.n.toNat, slV encU8 o.data]) (n := 1) (m := 20) rfl (length_encAddr _)
  rw [← this]; simp [encOp10]
theorem op_key (o : Op10) : (encOp10 o).toArray.extract 41 45 = (encWord o.key).toArray := by
  have := mid_part (a := .int .u8 o.kind.toNat :: (encAddr o.a ++ encAddr o.b)) (b := encWord o.key) (c := encWord o.v ++ [.int .u64 o.n.toNat, slV encU8 o.data]) (n := 41) (m := 4) (by simp [length_encAddr]) (length_encWord _)
  rw [← this]; simp [encOp10]
theorem op_v (o : Op10) : (encOp10 o).toArray.extract 45 49 = (encWord o.v).toArray := by
  have := mid_part (a := .int .u8 o.kind.toNat :: (encAddr o.a ++ encAddr o.b ++ encWord o.key)) (b := encWord o.v) (c := [.int .u64 o.n.toNat, slV encU8 o.data]) (n := 45) (m := 4) (by simp [length_encAddr, length_encWord]) (length_encWord _)
  rw [← this]; simp [encOp10]
attribute [go_sem] op_a op_key op_v
/-- a block that is nobody's -/
structure Loc (h : AH) (I : WI) (q : Nat) (o : AObj) : Prop where
  at_ : h[q]? = some o
  own : q ∉ I.own
theorem Loc.next {h h' : AH} {I I' : WI} {S' : WS} {q : Nat} {o : AObj} (k : Loc h I q o) (ha : o.alive = true) (ok : WOk Try.prog 26 78 h I h' I' S') : Loc h' I' q o :=
  ⟨ok.rest.same _ _ k.at_ ha k.own, fun hi => by
    rcases ok.gets _ hi with h | h
    · exact k.own h
    · have := h _ k.at_; rw [this] at ha; cases ha⟩
theorem Loc.app {h t : AH} {I : WI} {q : Nat} {o : AObj} (k : Loc h I q o) : Loc (h ++ t) I q o := ⟨at_old k.at_ _, k.own⟩
theorem WAt.loc {h : AH} {I : WI} {S : WS} {o : AObj} (w : WA h I S) : Loc (h ++ [o]) I h.length o :=
  ⟨by simp, fun hm => by have := w.holds.below _ (by rw [WI.own_lay]; exact hm); omega⟩
set_option maxHeartbeats 8000000 in
theorem fresh_calls (s : Sl Ent) (hs : s.l.length < 2 ^ 62) (hc : ∀ e ∈ s.l, e.code.l.length < 2 ^ 63 ∧ e.slots.l.length < 2 ^ 62) (t : Sl Op10) (ht : t.l.length < 2 ^ 63) (h : AH) :
    ACalls Try.prog 6 #[slV encEnt s, slV encOp10 t] h (fun v h' => v = .bool true) := by
  refine ACalls.of_ay Try.func6 rfl Try.ntmps6 ⟨_, [], rfl⟩ ?_; simp only [List.length_cons, List.length_nil, Nat.reduceAdd, Nat.reduceSub, List.replicate_succ, List.replicate_zero, List.cons_append, List.nil_append]
  simp (implicitDefEqProofs := false) (maxSteps := 2000000) only [go_sem, Nat.reduceAdd, Nat.reduceSub, Nat.reduceMul, Nat.reduceLT, Nat.reduceLeDiff, Nat.reduceEqDiff, Nat.reduceBEq, Nat.reduceBNe, Nat.reducePow, Int.reduceBEq, Int.reduceBNe, Int.reduceEq, Int.reduceLT, Int.reduceLE, Int.reduceNeg, Int.reduceToNat, Int.reduceMul, Int.reduceAdd, Int.reduceSub, Int.reducePow, Int.reduceFDiv, reduceCtorEq, reduceIte]
  refine astep_calls (heavy_calls s (by omega) hc t ht h) ?_
  rintro v1 h1 ⟨b, rfl, hb, rfl⟩
  cases b with
  | true =>
    simp (implicitDefEqProofs := false) (maxSteps := 2000000) only [go_sem, Nat.reduceAdd, Nat.reduceSub, Nat.reduceMul, Nat.reduceLT, Nat.reduceLeDiff, Nat.reduceEqDiff, Nat.reduceBEq, Nat.reduceBNe, Nat.reducePow, Int.reduceBEq, Int.reduceBNe, Int.reduceEq, Int.reduceLT, Int.reduceLE, Int.reduceNeg, Int.reduceToNat, Int.reduceMul, Int.reduceAdd, Int.reduceSub, Int.reducePow, Int.reduceFDiv, reduceCtorEq, reduceIte]
    refine astep_calls (known_calls h1) ?_
    rintro v2 h2 ⟨rfl, r2⟩
    simp (implicitDefEqProofs := false) (maxSteps := 2000000) only [go_sem, Nat.reduceAdd, Nat.reduceSub, Nat.reduceMul, Nat.reduceLT, Nat.reduceLeDiff, Nat.reduceEqDiff, Nat.reduceBEq, Nat.reduceBNe, Nat.reducePow, Int.reduceBEq, Int.reduceBNe, Int.reduceEq, Int.reduceLT, Int.reduceLE, Int.reduceNeg, Int.reduceToNat, Int.reduceMul, Int.reduceAdd, Int.reduceSub, Int.reducePow, Int.reduceFDiv, reduceCtorEq, reduceIte]
    exact ⟨.bool true, .bool true, _, rfl, .refl, rfl⟩
  | false =>
    simp (implicitDefEqProofs := false) (maxSteps := 2000000) only [go_sem, Nat.reduceAdd, Nat.reduceSub, Nat.reduceMul, Nat.reduceLT, Nat.reduceLeDiff, Nat.reduceEqDiff, Nat.reduceBEq, Nat.reduceBNe, Nat.reducePow, Int.reduceBEq, Int.reduceBNe, Int.reduceEq, Int.reduceLT, Int.reduceLE, Int.reduceNeg, Int.reduceToNat, Int.reduceMul, Int.reduceAdd, Int.reduceSub, Int.reducePow, Int.reduceFDiv, reduceCtorEq, reduceIte]
    refine astep_calls (known_calls h1) ?_
    rintro v2 h2 ⟨rfl, r2⟩
    simp (implicitDefEqProofs := false) (maxSteps := 2000000) only [go_sem, Nat.reduceAdd, Nat.reduceSub, Nat.reduceMul, Nat.reduceLT, Nat.reduceLeDiff, Nat.reduceEqDiff, Nat.reduceBEq, Nat.reduceBNe, Nat.reducePow, Int.reduceBEq, Int.reduceBNe, Int.reduceEq, Int.reduceLT, Int.reduceLE, Int.reduceNeg, Int.reduceToNat, Int.reduceMul, Int.reduceAdd, Int.reduceSub, Int.reducePow, Int.reduceFDiv, reduceCtorEq, reduceIte]
    have hEs : EsIn h2 [] (slV encEnt s) s.l := entsIn_slV (P := Try.prog) (tE := 22) (tEe := 35) (tS := 31) (tSe := 65) (tB := 30) (tStr := 9) Try.slc22 Try.tyc35 Try.slc31 Try.tyc65 Try.underlying30 Try.underlying5 Try.underlying9 s h2
    refine astep_calls (new_calls hEs (by simp) hs (fun x hx => (hc x hx).2)) ?_
    rintro v3 h3 ⟨I0, rfl, w0, r0, g0⟩
    simp (implicitDefEqProofs := false) (maxSteps := 2000000) only [go_sem, Nat.reduceAdd, Nat.reduceSub, Nat.reduceMul, Nat.reduceLT, Nat.reduceLeDiff, Nat.reduceEqDiff, Nat.reduceBEq, Nat.reduceBNe, Nat.reducePow, Int.reduceBEq, Int.reduceBNe, Int.reduceEq, Int.reduceLT, Int.reduceLE, Int.reduceNeg, Int.reduceToNat, Int.reduceMul, Int.reduceAdd, Int.reduceSub, Int.reducePow, Int.reduceFDiv, reduceCtorEq, reduceIte]
    refine AWP.loopI (ι := Nat × AH × WI × WS) (fun i => t.l.length - i.1) (fun i => [junk, slV encOp10 t, junk, junk, junk, .pointer (some ⟨i.2.2.1.b, 0, none⟩), .int .i64 ((i.1 : Nat) : Int), junk, junk, junk, junk, junk, junk, junk, junk, junk, junk, junk, junk, junk, junk, junk, junk, junk, junk, junk, junk, junk, junk, junk, junk, junk, junk, junk, junk, junk, junk, junk, junk, junk, junk, junk, junk, junk, junk, junk, junk, junk, junk, junk, junk, junk, junk, junk, junk, junk, junk, junk, junk, junk, junk, junk, junk, junk, junk, junk, junk, junk, junk, junk, junk, junk, junk, junk, junk, junk, junk, junk, junk, junk, junk, junk, junk, junk, junk, junk, junk, junk, junk, junk, junk, junk, junk, junk, junk, junk, junk, junk, junk, junk, junk, junk, junk, junk, junk, junk, junk, junk, junk, junk, junk, junk, junk]) (fun i => i.2.1)
      (fun i => i.1 ≤ t.l.length ∧ WA i.2.1 i.2.2.1 i.2.2.2) (0, h3, I0, _) ⟨Nat.zero_le _, w0⟩ (KeepsJ.ease ?_) ?_
    · repeat (first | exact .nil | refine .keep _ ?_ | refine .junk _ ?_)
    rintro ⟨i, k, I, S⟩ ⟨hi, w⟩
    simp only at hi w ⊢
    by_cases hlt : i < t.l.length
    · have hlt' : ((i : Nat) : Int) < ((t.l.length : Nat) : Int) := by omega
      have hw1 : IntKind.i64.wrap ((i : Int) + 1) = ((i + 1 : Nat) : Int) := by rw [wrap_i64_of ((i : Int) + 1) (by omega) (by omega), ofNat_succ']
      have hld := loadF_all length_encOp10 (by omega) hlt
      obtain ⟨o, ho⟩ : ∃ o, o = t.l[i] := ⟨_, rfl⟩
      rw [← ho] at hld
      have hz : ∀ zc : Array Value, zc.size = 51 → blit zc 0 (encOp10 o) = (encOp10 o).toArray := fun zc h => blit_list (by rw [length_encOp10, h])
      have l0 : Loc (k ++ [.cells (encOp10 o).toArray 0 true]) I k.length (.cells (encOp10 o).toArray 0 true) := WAt.loc w
      have w1 : WA (k ++ [.cells (encOp10 o).toArray 0 true]) I S := w.app
      simp (implicitDefEqProofs := false) (maxSteps := 2000000) only [go_sem, Nat.reduceAdd, Nat.reduceSub, Nat.reduceMul, Nat.reduceLT, Nat.reduceLeDiff, Nat.reduceEqDiff, Nat.reduceBEq, Nat.reduceBNe, Nat.reducePow, Int.reduceBEq, Int.reduceBNe, Int.reduceEq, Int.reduceLT, Int.reduceLE, Int.reduceNeg, Int.reduceToNat, Int.reduceMul, Int.reduceAdd, Int.reduceSub, Int.reducePow, Int.reduceFDiv, reduceCtorEq, reduceIte, hlt, hlt', hld, hz, size_zeros]
      refine astep_calls (begin_calls w1) ?_
      rintro u1 k1 ⟨hu1, I1, ok1⟩
      have b1 : I1.b = I.b := ok1.b
      have l1 := l0.next rfl ok1
      have w2 := ok1.at_
      simp (implicitDefEqProofs := false) (maxSteps := 2000000) only [go_sem, Nat.reduceAdd, Nat.reduceSub, Nat.reduceMul, Nat.reduceLT, Nat.reduceLeDiff, Nat.reduceEqDiff, Nat.reduceBEq, Nat.reduceBNe, Nat.reducePow, Int.reduceBEq, Int.reduceBNe, Int.reduceEq, Int.reduceLT, Int.reduceLE, Int.reduceNeg, Int.reduceToNat, Int.reduceMul, Int.reduceAdd, Int.reduceSub, Int.reducePow, Int.reduceFDiv, reduceCtorEq, reduceIte, hu1, l1.at_]
      have c2 := slot_calls o.a o.key w2
      rw [b1] at c2
      refine astep_call c2 ?_
      obtain ⟨z, hz0⟩ : ∃ z, z = (S.begun.slots ⟨o.a, o.key⟩).getD zeroW := ⟨_, rfl⟩
      rw [← hz0]
      have hl1 := l1.at_
      simp (implicitDefEqProofs := false) (maxSteps := 2000000) only [go_sem, Nat.reduceAdd, Nat.reduceSub, Nat.reduceMul, Nat.reduceLT, Nat.reduceLeDiff, Nat.reduceEqDiff, Nat.reduceBEq, Nat.reduceBNe, Nat.reducePow, Int.reduceBEq, Int.reduceBNe, Int.reduceEq, Int.reduceLT, Int.reduceLE, Int.reduceNeg, Int.reduceToNat, Int.reduceMul, Int.reduceAdd, Int.reduceSub, Int.reducePow, Int.reduceFDiv, reduceCtorEq, reduceIte, hl1, at_old l1.at_]
      have w3 : WA (k1 ++ [.cells (encWord z).toArray 0 true]) I1 S.begun := w2.app
      have l3 : Loc (k1 ++ [.cells (encWord z).toArray 0 true]) I1 k.length (.cells (encOp10 o).toArray 0 true) := l1.app
      have m3 : Loc (k1 ++ [.cells (encWord z).toArray 0 true]) I1 k1.length (.cells (encWord z).toArray 0 true) := WAt.loc w2
      have c4 := touch_calls o.a w3 (by show (0 : Nat) < _; omega)
      rw [b1, show (S.begun.touched o.a).getD 0 = 0 from rfl, if_neg (show ¬ ((0 : Int) < 0) by omega)] at c4
      refine astep_calls c4 ?_
      rintro u4 k4 ⟨hu4, I4, ok4⟩
      have b4 : I4.b = I.b := ok4.b.trans b1
      have l4 := l3.next rfl ok4
      have m4 := m3.next rfl ok4
      have w4 := ok4.at_
      simp (implicitDefEqProofs := false) (maxSteps := 2000000) only [go_sem, Nat.reduceAdd, Nat.reduceSub, Nat.reduceMul, Nat.reduceLT, Nat.reduceLeDiff, Nat.reduceEqDiff, Nat.reduceBEq, Nat.reduceBNe, Nat.reducePow, Int.reduceBEq, Int.reduceBNe, Int.reduceEq, Int.reduceLT, Int.reduceLE, Int.reduceNeg, Int.reduceToNat, Int.reduceMul, Int.reduceAdd, Int.reduceSub, Int.reducePow, Int.reduceFDiv, reduceCtorEq, reduceIte, hu4, l4.at_]
      have c5 := touch_calls o.a w4 (by show (1 : Nat) < _; omega)
      have t5 : (((WS.touch S.begun o.a).touched o.a).getD 0) = 1 := by
        show ((if o.a = o.a then some (1 : Int) else _).getD 0) = 1
        rw [if_pos rfl]; rfl
      rw [b4, t5, if_pos (show ((0 : Int) < 1) by omega)] at c5
      refine astep_calls c5 ?_
      rintro u5 k5 ⟨hu5, I5, ok5⟩
      have b5 : I5.b = I.b := ok5.b.trans b4
      have l5 := l4.next rfl ok5
      have m5 := m4.next rfl ok5
      have w5 := ok5.at_
      simp (implicitDefEqProofs := false) (maxSteps := 2000000) only [go_sem, Nat.reduceAdd, Nat.reduceSub, Nat.reduceMul, Nat.reduceLT, Nat.reduceLeDiff, Nat.reduceEqDiff, Nat.reduceBEq, Nat.reduceBNe, Nat.reducePow, Int.reduceBEq, Int.reduceBNe, Int.reduceEq, Int.reduceLT, Int.reduceLE, Int.reduceNeg, Int.reduceToNat, Int.reduceMul, Int.reduceAdd, Int.reduceSub, Int.reducePow, Int.reduceFDiv, reduceCtorEq, reduceIte, hu5, l5.at_]
      have c6 := touchSlot_calls o.a o.key w5 (by show (1 : Nat) < _; omega)
      rw [b5, show ((WS.touch S.begun o.a).looked ⟨o.a, o.key⟩).getD 0 = 0 from rfl, if_neg (show ¬ ((0 : Int) < 0) by omega)] at c6
      refine astep_calls c6 ?_
      rintro u6 k6 ⟨hu6, I6, ok6⟩
      have b6 : I6.b = I.b := ok6.b.trans b5
      have l6 := l5.next rfl ok6
      have m6 := m5.next rfl ok6
      have w6 := ok6.at_
      simp (implicitDefEqProofs := false) (maxSteps := 2000000) only [go_sem, Nat.reduceAdd, Nat.reduceSub, Nat.reduceMul, Nat.reduceLT, Nat.reduceLeDiff, Nat.reduceEqDiff, Nat.reduceBEq, Nat.reduceBNe, Nat.reducePow, Int.reduceBEq, Int.reduceBNe, Int.reduceEq, Int.reduceLT, Int.reduceLE, Int.reduceNeg, Int.reduceToNat, Int.reduceMul, Int.reduceAdd, Int.reduceSub, Int.reducePow, Int.reduceFDiv, reduceCtorEq, reduceIte, hu6, l6.at_]
      have c7 := touchSlot_calls o.a o.key w6 (by show (2 : Nat) < _; omega)
      have t7 : (((WS.touchSlot (WS.touch S.begun o.a) ⟨o.a, o.key⟩).looked ⟨o.a, o.key⟩).getD 0) = 1 := by
        show ((if (⟨o.a, o.key⟩ : Plc) = ⟨o.a, o.key⟩ then some (1 : Int) else _).getD 0) = 1
        rw [if_pos rfl]; rfl
      rw [b6, t7, if_pos (show ((0 : Int) < 1) by omega)] at c7
      refine astep_calls c7 ?_
      rintro u7 k7 ⟨hu7, I7, ok7⟩
      have b7 : I7.b = I.b := ok7.b.trans b6
      have l7 := l6.next rfl ok7
      have m7 := m6.next rfl ok7
      have w7 := ok7.at_
      simp (implicitDefEqProofs := false) (maxSteps := 2000000) only [go_sem, Nat.reduceAdd, Nat.reduceSub, Nat.reduceMul, Nat.reduceLT, Nat.reduceLeDiff, Nat.reduceEqDiff, Nat.reduceBEq, Nat.reduceBNe, Nat.reducePow, Int.reduceBEq, Int.reduceBNe, Int.reduceEq, Int.reduceLT, Int.reduceLE, Int.reduceNeg, Int.reduceToNat, Int.reduceMul, Int.reduceAdd, Int.reduceSub, Int.reducePow, Int.reduceFDiv, reduceCtorEq, reduceIte, hu7, l7.at_]
      have c8 := setSlot_calls o.a o.key o.v w7 (by show (2 : Nat) < _; omega)
      obtain ⟨S8, hS8⟩ : ∃ S8, S8 = WS.setSlot (WS.touchSlot (WS.touch S.begun o.a) ⟨o.a, o.key⟩) ⟨o.a, o.key⟩ o.v := ⟨_, rfl⟩
      rw [b7, ← hS8] at c8
      have f1 : WS.was S8 ⟨o.a, o.key⟩ = z := by
        rw [hS8, hz0]
        show (match (if (⟨o.a, o.key⟩ : Plc) = ⟨o.a, o.key⟩ then some ((S.slots ⟨o.a, o.key⟩).getD zeroW) else none) with | some v => v | none => _) = _
        rw [if_pos rfl]; rfl
      have f2 : (S8.slots ⟨o.a, o.key⟩).getD zeroW = o.v := by
        rw [hS8]
        show ((if (⟨o.a, o.key⟩ : Plc) = ⟨o.a, o.key⟩ then some o.v else _).getD zeroW) = o.v
        rw [if_pos rfl]; rfl
      have f3 : S8.refund = 0 := by rw [hS8]; rfl
      have f4 : S8.logs = [] := by rw [hS8]; rfl
      clear hS8
      refine astep_calls c8 ?_
      intro u8 k8 hh
      have hu8 := hh.1
      have ok8 := Classical.choose_spec hh.2
      have b8 : (Classical.choose hh.2).b = I.b := ok8.b.trans b7
      have l8 := l7.next rfl ok8
      have m8 := m7.next rfl ok8
      have w8 := ok8.at_
      simp (implicitDefEqProofs := false) (maxSteps := 2000000) only [go_sem, Nat.reduceAdd, Nat.reduceSub, Nat.reduceMul, Nat.reduceLT, Nat.reduceLeDiff, Nat.reduceEqDiff, Nat.reduceBEq, Nat.reduceBNe, Nat.reducePow, Int.reduceBEq, Int.reduceBNe, Int.reduceEq, Int.reduceLT, Int.reduceLE, Int.reduceNeg, Int.reduceToNat, Int.reduceMul, Int.reduceAdd, Int.reduceSub, Int.reducePow, Int.reduceFDiv, reduceCtorEq, reduceIte, hu8, l8.at_, m8.at_]
      refine ⟨by kernel_rfl, by kernel_rfl, ?_⟩
      have c9 := original_calls o.a o.key w8
      rw [b8, f1] at c9
      refine dstep_call c9 pres_refl ?_
      simp (implicitDefEqProofs := false) (maxSteps := 2000000) only [go_sem, Nat.reduceAdd, Nat.reduceSub, Nat.reduceMul, Nat.reduceLT, Nat.reduceLeDiff, Nat.reduceEqDiff, Nat.reduceBEq, Nat.reduceBNe, Nat.reducePow, Int.reduceBEq, Int.reduceBNe, Int.reduceEq, Int.reduceLT, Int.reduceLE, Int.reduceNeg, Int.reduceToNat, Int.reduceMul, Int.reduceAdd, Int.reduceSub, Int.reducePow, Int.reduceFDiv, reduceCtorEq, reduceIte, l8.at_, m8.at_]
      have c10 := slot_calls o.a o.key w8
      rw [b8, f2] at c10
      refine dstep_call c10 pres_refl ?_
      simp (implicitDefEqProofs := false) (maxSteps := 2000000) only [go_sem, Nat.reduceAdd, Nat.reduceSub, Nat.reduceMul, Nat.reduceLT, Nat.reduceLeDiff, Nat.reduceEqDiff, Nat.reduceBEq, Nat.reduceBNe, Nat.reducePow, Int.reduceBEq, Int.reduceBNe, Int.reduceEq, Int.reduceLT, Int.reduceLE, Int.reduceNeg, Int.reduceToNat, Int.reduceMul, Int.reduceAdd, Int.reduceSub, Int.reducePow, Int.reduceFDiv, reduceCtorEq, reduceIte, l8.at_, m8.at_]
      have c11 := refunds_calls w8
      rw [b8, f3] at c11
      refine dstep_call c11 pres_refl ?_
      simp (implicitDefEqProofs := false) (maxSteps := 2000000) only [go_sem, Nat.reduceAdd, Nat.reduceSub, Nat.reduceMul, Nat.reduceLT, Nat.reduceLeDiff, Nat.reduceEqDiff, Nat.reduceBEq, Nat.reduceBNe, Nat.reducePow, Int.reduceBEq, Int.reduceBNe, Int.reduceEq, Int.reduceLT, Int.reduceLE, Int.reduceNeg, Int.reduceToNat, Int.reduceMul, Int.reduceAdd, Int.reduceSub, Int.reducePow, Int.reduceFDiv, reduceCtorEq, reduceIte, l8.at_, m8.at_]
      have c12 := logs0_calls w8 f4
      rw [b8] at c12
      refine dstep_call c12 pres_refl ?_
      simp (implicitDefEqProofs := false) (maxSteps := 2000000) only [go_sem, Nat.reduceAdd, Nat.reduceSub, Nat.reduceMul, Nat.reduceLT, Nat.reduceLeDiff, Nat.reduceEqDiff, Nat.reduceBEq, Nat.reduceBNe, Nat.reducePow, Int.reduceBEq, Int.reduceBNe, Int.reduceEq, Int.reduceLT, Int.reduceLE, Int.reduceNeg, Int.reduceToNat, Int.reduceMul, Int.reduceAdd, Int.reduceSub, Int.reducePow, Int.reduceFDiv, reduceCtorEq, reduceIte, l8.at_, m8.at_, hw1]
      refine ⟨(i + 1, k8, Classical.choose hh.2, S8), by simp only; omega, ⟨hlt, w8⟩, ?_⟩
      simp only [b8]
      refine KeepsJ.ease ?_
      repeat (first | exact .nil | refine .keep _ ?_ | refine .junk _ ?_)
    · have hlt' : ¬ ((i : Nat) : Int) < ((t.l.length : Nat) : Int) := by omega
      simp (implicitDefEqProofs := false) (maxSteps := 2000000) only [go_sem, Nat.reduceAdd, Nat.reduceSub, Nat.reduceMul, Nat.reduceLT, Nat.reduceLeDiff, Nat.reduceEqDiff, Nat.reduceBEq, Nat.reduceBNe, Nat.reducePow, Int.reduceBEq, Int.reduceBNe, Int.reduceEq, Int.reduceLT, Int.reduceLE, Int.reduceNeg, Int.reduceToNat, Int.reduceMul, Int.reduceAdd, Int.reduceSub, Int.reducePow, Int.reduceFDiv, reduceCtorEq, reduceIte, hlt, hlt']
      exact ⟨.bool true, .bool true, _, rfl, .refl, rfl⟩
end Go.Proofs

set_option linter.unusedSimpArgs false
set_option linter.unusedVariables false
set_option maxRecDepth 100000
/- what is handed in: accounts, calls -/
namespace Go.Proofs
open Go Go.Am
theorem flatSt8 : flat Try.prog 8 5 = some [5] := by kernel_rfl
theorem flatSlt : flat Try.prog 8 65 = some (List.replicate 4 27 ++ List.replicate 4 27) := by kernel_rfl
theorem decsSlt : Decs Try.prog (List.replicate 4 27 ++ List.replicate 4 27) encSlt (fun _ => True) :=
  (((Decs.u64 Try.underlying27).vec 4).append ((Decs.u64 Try.underlying27).vec 4)).to (fun p => ⟨p.1, p.2⟩) (fun p => rfl) (fun _ _ => trivial)
theorem flatEnt : flat Try.prog 8 35 = some (List.replicate 20 5 ++ ([27] ++ (List.replicate 4 27 ++ ([30] ++ [31])))) := by kernel_rfl
theorem bytesSlt : Try.prog.bytesOf 65 = 64 := by kernel_rfl
theorem bytesEnt : Try.prog.bytesOf 35 = 112 := by kernel_rfl
def Ent.ok (e : Ent) : Prop := e.code.l.length < 2 ^ 63 ∧ e.slots.l.length < 2 ^ 62
theorem decsEnt : Decs Try.prog (List.replicate 20 5 ++ ([27] ++ (List.replicate 4 27 ++ ([30] ++ [31])))) encEnt Ent.ok :=
  (((Decs.u8 Try.underlying5).vec 20).append ((Decs.u64 Try.underlying27).append (((Decs.u64 Try.underlying27).vec 4).append
    ((Decs.sliceL Try.underlying30 flatSt8 (fun p => length_encU8 p) (Decs.u8 Try.underlying5)).append (Decs.sliceL Try.underlying31 flatSlt (fun p => length_encSlt p) decsSlt))))).to
    (fun p => ⟨p.1, p.2.1, p.2.2.1, p.2.2.2.1, p.2.2.2.2⟩) (fun p => rfl) (fun p h => by
      obtain ⟨_, _, _, ⟨⟨h1, _⟩, _⟩, ⟨⟨_, h2⟩, _⟩⟩ := h
      rw [bytesSlt] at h2
      have e1 : maxLen = 2 ^ 63 - 1 := rfl
      have e2 : reachBytes = 0x7ffffffff000 := rfl
      refine ⟨?_, ?_⟩
      · show p.2.2.2.1.l.length < 2 ^ 63
        omega
      · show p.2.2.2.2.l.length < 2 ^ 62
        omega)
theorem flatOp10 : flat Try.prog 8 52 = some ([5] ++ (List.replicate 20 5 ++ (List.replicate 20 5 ++ (List.replicate 4 27 ++ (List.replicate 4 27 ++ ([27] ++ [30])))))) := by kernel_rfl
theorem decsOp10 : Decs Try.prog ([5] ++ (List.replicate 20 5 ++ (List.replicate 20 5 ++ (List.replicate 4 27 ++ (List.replicate 4 27 ++ ([27] ++ [30])))))) encOp10 (fun _ => True) :=
  ((Decs.u8 Try.underlying5).append (((Decs.u8 Try.underlying5).vec 20).append (((Decs.u8 Try.underlying5).vec 20).append (((Decs.u64 Try.underlying27).vec 4).append (((Decs.u64 Try.underlying27).vec 4).append
    ((Decs.u64 Try.underlying27).append (Decs.slice Try.underlying30 flatSt8 (fun p => length_encU8 p) (Decs.u8 Try.underlying5)))))))).to
    (fun p => ⟨p.1, p.2.1, p.2.2.1, p.2.2.2.1, p.2.2.2.2.1, p.2.2.2.2.2.1, p.2.2.2.2.2.2⟩) (fun p => by simp [encOp10, encAddr, encWord, List.append_assoc]) (fun _ _ => trivial)
end Go.Proofs

